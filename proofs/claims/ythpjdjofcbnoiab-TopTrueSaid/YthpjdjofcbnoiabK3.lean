/-
  Texts for the law TopTrue: Hi Hn Tp.
-/
import Derived.Test.YthpjdjofcbnoiabK2
import Derived.Test.YthpjdjofcbnoiabPj
import Derived.Test.YthpjdjofcbnoiabPv

/-
  Package top: acts that are played.
-/
namespace Go.W
open Go.Proofs

theorem cptr_acts (l : List Act) {k : Nat} (h : k < l.length) : AV.cptr ((l.map eAct).getD k default) = .cptr (eAct (l.getD k Act.zero)) := by
  simp [List.getElem?_eq_getElem h]
theorem sizes_acts (l : List Act) : ∀ d ∈ l.map eAct, d.size = 14 := by
  intro d hd
  obtain ⟨v, _, rfl⟩ := List.mem_map.1 hd
  rfl
theorem sameAA (a b : Act) : Same (eAct a) (eAct b) := ⟨rfl, fun i hi => by
  match i, hi with
  | 0, _ => trivial
  | 1, _ => trivial
  | 2, _ => trivial
  | 3, _ => trivial
  | 4, _ => exact sameWW _ _
  | 5, _ => exact sameVV _ _⟩

set_option maxHeartbeats 8000000 in
set_option maxRecDepth 100000 in
theorem play_quiet (liar : Int) (l : List Act) (hl : -1 ≤ liar ∧ liar < 4) : Fn Try.prog 27 [.data (I liar), .data (eActs l), .func 28 []] [] (.tuple [.ptr 0 [], .data (.bool true)]) (CE (played liar l)) := by
  refine spec_of ttok Try.func27 rfl (by kernel_rfl) (by exact Nat.le_of_ble_eq_true rfl) fun hin hie c0 hc0 he => ?_
  have hn0 : c0.es.length ≤ 0 := Nat.le_of_eq (by rw [he]; rfl)
  have hz : c0.es.length = 0 := by rw [he]; rfl
  refine R [] ?_
  refine W.seq (R [.data (.bool true)] (ho := by exact ⟨alive_top, trivial⟩) ?_)
  refine CF ?_
  refine W.skip ?_
  refine R [Hint.on [] (CE (newC liar)) (.tuple [.ptr 0 [], .data (I 0)])] (ho := by exact ⟨newC_ok liar hl, trivial⟩) ?_
  refine W.seq (R [] ?_)
  refine CF ?_
  refine W.skip ?_
  refine W.seq (R [] ?_)
  refine W.block (W.loop hc0 (ι := Nat) (fun i => ⟨52, frOf [(1, .data (eActs l)), (2, .func 28 []), (8, .ptr 0 []), (10, .data (I i))], CE (playC (newC liar) (l.take i))⟩) (fun i => i ≤ 300 ∧ i ≤ l.length) (fun i => 300 - i) 0 (by omega) ?_ ?_)
  · exact Le.cut _ 2 (by omega) ⟨⟨by with_unfolding_all rfl, rfl⟩, ⟨by with_unfolding_all rfl, rfl⟩, ⟨by with_unfolding_all rfl, rfl⟩, ⟨by with_unfolding_all rfl, rfl⟩, trivial⟩ (by with_unfolding_all rfl)
  · intro i ⟨hi3, hil⟩
    refine W.seq (R [] ?_)
    refine C (fun hb => ?_) (fun hb => ?_)
    · have hii : i < l.length ∧ i < 300 := by
        have hb : (bif decide ((i : Int) < ((l.map eAct).length : Int)) then decide ((i : Int) < 300) else false) = true := hb
        rw [bif_and, List.length_map] at hb
        simp only [Bool.and_eq_true, decide_eq_true_eq] at hb
        omega
      clear hb
      have hp := Played.play liar l i hil (by omega)
      have hT := playC_take (newC liar) l hii.1
      generalize playC (newC liar) (l.take i) = c at hp hT ⊢
      have hac : 0 ≤ c.acts ∧ c.acts ≤ 600 := by have := hp.acts; omega
      have hix : (0 : Int) ≤ i ∧ (i : Int) < (l.map eAct).length := ⟨by omega, by rw [List.length_map]; omega⟩
      refine W.skip (W.seq (W.block ?_))
      generalize hx : l.getD i Act.zero = x at hT
      have hcp : AV.cptr ((l.map eAct).getD i default) = .cptr (eAct x) := by rw [cptr_acts _ hii.1, hx]
      by_cases hd : drops c x
      case' pos =>
        have hdo := do_drop hp.net hac hd
        generalize doC c x = y at hdo hT
        refine R [.is 38 (.cptr (eAct x)), Hint.on [0, 1] [.var (eCrowd y.1) [([1], 2)], .row 7 (c.net.map eLetter), .row 7 (y.1.net.map eLetter)] (.data (eReply y.2))] (ho := by exact ⟨hcp, hix, sizes_acts l, hdo, sameRR _ _, trivial⟩) ?_
        refine W.le hc0 (Le.pick [0, 2, 3] [(1, .data (eActs l)), (2, .func 28 []), (8, .ptr 0 []), (10, .data (I i)), (11, .ptr 2 [])] (es' := CE y.1 ++ [.var (eReply y.2) []]) (fun k hk => by omega) (by with_unfolding_all rfl) (by with_unfolding_all rfl) ⟨by with_unfolding_all rfl, by with_unfolding_all rfl, by with_unfolding_all rfl, by with_unfolding_all rfl, by with_unfolding_all rfl, trivial⟩) ?_
      case' neg =>
        have hdo := do_no hp.net hac hd
        generalize doC c x = y at hdo hT
        refine R [.is 38 (.cptr (eAct x)), Hint.on [0, 1] (CE y.1) (.data (eReply y.2))] (ho := by exact ⟨hcp, hix, sizes_acts l, hdo, sameRR _ _, trivial⟩) ?_
        refine W.le hc0 (Le.cut [(1, .data (eActs l)), (2, .func 28 []), (8, .ptr 0 []), (10, .data (I i)), (11, .ptr 2 [])] 3 (by omega) (es' := CE y.1 ++ [.var (eReply y.2) []]) ⟨⟨by with_unfolding_all rfl, rfl⟩, ⟨by with_unfolding_all rfl, rfl⟩, ⟨by with_unfolding_all rfl, rfl⟩, ⟨by with_unfolding_all rfl, rfl⟩, ⟨by with_unfolding_all rfl, rfl⟩, trivial⟩ (by with_unfolding_all rfl)) ?_
      all_goals
        refine RD [.is 45 (.cptr (eAct x)), Hint.on [0, 1] (CE y.1) (.data (.bool true))] (ho := by exact ⟨hcp, hix, sizes_acts l, quiet_top y.1 x y.2, trivial⟩) ?_
        refine CF ?_
        refine W.skip ?_
        refine R1 [] ?_
        refine ⟨i + 1, by omega, by omega, Le.cut _ 2 (by omega) ⟨⟨by with_unfolding_all rfl, rfl⟩, ⟨by with_unfolding_all rfl, rfl⟩, ⟨by with_unfolding_all rfl, rfl⟩, ⟨sl_int (wrap_up (by omega)), rfl⟩, trivial⟩ ?_⟩
        rw [hT]
        with_unfolding_all rfl
    · have hb : (bif decide ((i : Int) < ((l.map eAct).length : Int)) then decide ((i : Int) < 300) else false) = false := hb
      rw [bif_and, List.length_map] at hb
      simp only [Bool.and_eq_false_iff, decide_eq_false_iff_not] at hb
      have hend := played_end (liar := liar) (l := l) (i := i) (by omega) hi3
      rw [hend]
      refine W.exit ?_
      refine R [] ?_
      exact W.ret (End 2 (by omega) ⟨rfl, rfl⟩)

end Go.W

/-
  Package top: acts that are played; what looks at them keeps a variable and a map, and reads another variable.
-/
namespace Go.W
open Go.Proofs

/-- A chain of states out of steps that keep what holds. -/
theorem chainZ {X : Type} (J : Nat → X → Prop) (S : Nat → X → X → Prop) (z0 : X) (m : Nat) (h0 : J 0 z0) (hs : ∀ i z, i < m → J i z → ∃ z', J (i + 1) z' ∧ S i z z') :
    ∃ Z : Nat → X, Z 0 = z0 ∧ ∀ i, i < m → S i (Z i) (Z (i + 1)) := by
  have h : ∀ k, k ≤ m → ∃ Z : Nat → X, Z 0 = z0 ∧ J k (Z k) ∧ ∀ i, i < k → S i (Z i) (Z (i + 1)) := by
    intro k
    induction k with
    | zero => intro _; exact ⟨fun _ => z0, rfl, h0, fun i hi => absurd hi (by omega)⟩
    | succ k ih =>
      intro hk
      obtain ⟨Z, hz, hj, hS⟩ := ih (by omega)
      obtain ⟨z', hj', hs'⟩ := hs k (Z k) (by omega) hj
      refine ⟨fun i => if i ≤ k then Z i else z', by show (if 0 ≤ k then Z 0 else z') = z0; rw [if_pos (by omega)]; exact hz, by show J (k + 1) (if k + 1 ≤ k then Z (k + 1) else z'); rw [if_neg (by omega)]; exact hj', fun i hi => ?_⟩
      by_cases hik : i < k
      · have := hS i hik
        simp only [show i ≤ k from by omega, show i + 1 ≤ k from by omega, if_true]
        exact this
      · obtain rfl : i = k := by omega
        simp only [show i ≤ i from by omega, show ¬ i + 1 ≤ i from by omega, if_true, if_false]
        exact hs'
  obtain ⟨Z, hz, _, hS⟩ := h m (Nat.le_refl m)
  exact ⟨Z, hz, hS⟩

set_option maxHeartbeats 8000000 in
set_option maxRecDepth 100000 in
theorem play_map (liar : Int) (l : List Act) (hl : -1 ≤ liar ∧ liar < 4) (f : FuncId) (Z : Nat → Nat × List (D × D)) (L : D)
    (hf : ∀ i c x y, i < 300 → i < l.length → Played liar c i → c = playC (newC liar) (l.take i) → x = l.getD i Act.zero → y = doC c x →
      Fn Try.prog f [.ptr 0 [], .data (eAct x), .data (eReply y.2), .ptr 2 [], .ptr 3 [], .ptr 4 []] (CE y.1 ++ [.var (I (Z i).1) [], .var L [], .ref (.mp 5), .map (Z i).2]) (.data (.bool true)) (CE y.1 ++ [.var (I (Z (i + 1)).1) [], .var L [], .ref (.mp 5), .map (Z (i + 1)).2])) :
    ∃ z : Nat × List (D × D), Fn Try.prog 27 [.data (I liar), .data (eActs l), .func f [.ptr 0 [], .ptr 1 [], .ptr 2 []]] [.var (I (Z 0).1) [], .var L [], .ref (.mp 3), .map (Z 0).2] (.tuple [.undef, .data (.bool true)]) [.var (I z.1) [], .var L [], .ref (.mp 3), .map z.2] := by
  refine ⟨Z (min 300 l.length), ?_⟩
  refine spec_of ttok Try.func27 rfl (by kernel_rfl) (by exact Nat.le_of_ble_eq_true rfl) fun hin hie c0 hc0 he => ?_
  have hn0 : c0.es.length ≤ 4 := Nat.le_of_eq (by rw [he]; rfl)
  have hz : c0.es.length = 4 := by rw [he]; rfl
  refine R [] ?_
  refine W.seq (R [.data (.bool true)] (ho := by exact ⟨alive_top, trivial⟩) ?_)
  refine CF ?_
  refine W.skip ?_
  refine R [Hint.on [] (CE (newC liar)) (.tuple [.ptr 0 [], .data (I 0)])] (ho := by exact ⟨newC_ok liar hl, trivial⟩) ?_
  refine W.seq (R [] ?_)
  refine CF ?_
  refine W.skip ?_
  refine W.seq (R [] ?_)
  refine W.block (W.loop hc0 (ι := Nat) (fun i => ⟨52, frOf [(1, .data (eActs l)), (2, .func f [.ptr 0 [], .ptr 1 [], .ptr 2 []]), (8, .ptr 4 []), (10, .data (I i))], [.var (I (Z i).1) [], .var L [], .ref (.mp 3), .map (Z i).2, .var (eCrowd (playC (newC liar) (l.take i))) [([1], 5)], .row 7 ((playC (newC liar) (l.take i)).net.map eLetter)]⟩) (fun i => i ≤ 300 ∧ i ≤ l.length) (fun i => 300 - i) 0 (by omega) ?_ ?_)
  · exact Le.cut _ 6 (by omega) ⟨⟨by with_unfolding_all rfl, rfl⟩, ⟨by with_unfolding_all rfl, rfl⟩, ⟨by with_unfolding_all rfl, rfl⟩, ⟨by with_unfolding_all rfl, rfl⟩, trivial⟩ (by with_unfolding_all rfl)
  · intro i ⟨hi3, hil⟩
    refine W.seq (R [] ?_)
    refine C (fun hb => ?_) (fun hb => ?_)
    · have hii : i < l.length ∧ i < 300 := by
        have hb : (bif decide ((i : Int) < ((l.map eAct).length : Int)) then decide ((i : Int) < 300) else false) = true := hb
        rw [bif_and, List.length_map] at hb
        simp only [Bool.and_eq_true, decide_eq_true_eq] at hb
        omega
      clear hb
      have hp := Played.play liar l i hil (by omega)
      have hT := playC_take (newC liar) l hii.1
      generalize hcc : playC (newC liar) (l.take i) = c at hp hT ⊢
      have hac : 0 ≤ c.acts ∧ c.acts ≤ 600 := by have := hp.acts; omega
      have hix : (0 : Int) ≤ i ∧ (i : Int) < (l.map eAct).length := ⟨by omega, by rw [List.length_map]; omega⟩
      refine W.skip (W.seq (W.block ?_))
      generalize hx : l.getD i Act.zero = x at hT
      have hcp : AV.cptr ((l.map eAct).getD i default) = .cptr (eAct x) := by rw [cptr_acts _ hii.1, hx]
      by_cases hd : drops c x
      case' pos =>
        have hdo := do_drop hp.net hac hd
        generalize hyy : doC c x = y at hdo hT
        refine R [.is 38 (.cptr (eAct x)), Hint.on [4, 5] [.var (eCrowd y.1) [([1], 2)], .row 7 (c.net.map eLetter), .row 7 (y.1.net.map eLetter)] (.data (eReply y.2))] (ho := by exact ⟨hcp, hix, sizes_acts l, hdo, sameRR _ _, trivial⟩) ?_
        refine W.le hc0 (Le.pick [0, 1, 2, 3, 4, 6, 7] [(1, .data (eActs l)), (2, .func f [.ptr 0 [], .ptr 1 [], .ptr 2 []]), (8, .ptr 4 []), (10, .data (I i)), (11, .ptr 6 [])] (es' := [.var (I (Z i).1) [], .var L [], .ref (.mp 3), .map (Z i).2, .var (eCrowd y.1) [([1], 5)], .row 7 (y.1.net.map eLetter), .var (eReply y.2) []]) (fun k hk => by rcases (by omega : k = 0 ∨ k = 1 ∨ k = 2 ∨ k = 3) with rfl | rfl | rfl | rfl <;> rfl) (by with_unfolding_all rfl) (by with_unfolding_all rfl) ⟨by with_unfolding_all rfl, by with_unfolding_all rfl, by with_unfolding_all rfl, by with_unfolding_all rfl, by with_unfolding_all rfl, trivial⟩) ?_
      case' neg =>
        have hdo := do_no hp.net hac hd
        generalize hyy : doC c x = y at hdo hT
        refine R [.is 38 (.cptr (eAct x)), Hint.on [4, 5] (CE y.1) (.data (eReply y.2))] (ho := by exact ⟨hcp, hix, sizes_acts l, hdo, sameRR _ _, trivial⟩) ?_
        refine W.le hc0 (Le.cut [(1, .data (eActs l)), (2, .func f [.ptr 0 [], .ptr 1 [], .ptr 2 []]), (8, .ptr 4 []), (10, .data (I i)), (11, .ptr 6 [])] 7 (by omega) (es' := [.var (I (Z i).1) [], .var L [], .ref (.mp 3), .map (Z i).2, .var (eCrowd y.1) [([1], 5)], .row 7 (y.1.net.map eLetter), .var (eReply y.2) []]) ⟨⟨by with_unfolding_all rfl, rfl⟩, ⟨by with_unfolding_all rfl, rfl⟩, ⟨by with_unfolding_all rfl, rfl⟩, ⟨by with_unfolding_all rfl, rfl⟩, ⟨by with_unfolding_all rfl, rfl⟩, trivial⟩ (by with_unfolding_all rfl)) ?_
      all_goals
        refine RD [.is 45 (.cptr (eAct x)), Hint.on [4, 5, 0, 1, 2, 3] (CE y.1 ++ [.var (I (Z (i + 1)).1) [], .var L [], .ref (.mp 5), .map (Z (i + 1)).2]) (.data (.bool true))] (ho := by exact ⟨hcp, hix, sizes_acts l, hf i c x y hii.2 hii.1 hp hcc.symm hx.symm hyy.symm, trivial⟩) ?_
        refine CF ?_
        refine W.skip ?_
        refine R1 [] ?_
        refine ⟨i + 1, by omega, by omega, Le.cut _ 6 (by omega) ⟨⟨by with_unfolding_all rfl, rfl⟩, ⟨by with_unfolding_all rfl, rfl⟩, ⟨by with_unfolding_all rfl, rfl⟩, ⟨sl_int (wrap_up (by omega)), rfl⟩, trivial⟩ ?_⟩
        rw [hT]
        with_unfolding_all rfl
    · have hb : (bif decide ((i : Int) < ((l.map eAct).length : Int)) then decide ((i : Int) < 300) else false) = false := hb
      rw [bif_and, List.length_map] at hb
      simp only [Bool.and_eq_false_iff, decide_eq_false_iff_not] at hb
      have hend : i = min 300 l.length := by omega
      refine W.exit ?_
      refine R [] ?_
      rw [← hend]
      exact W.ret (End 4 (by omega) ⟨rfl, rfl⟩)

end Go.W

/-
  The law TopTrue.
-/
namespace Go.W
open Go.Proofs

theorem word_key (w : Word) : ((eWord w).set [4] (I 0)).set [5] (I 0) = eWord (keyW w) := by
  simp only [eWord, D.set, set_nil]
  congr 1
  funext i
  match i with
  | 0 => rfl
  | 1 => rfl
  | 2 => rfl
  | 3 => rfl
  | 4 => rfl
  | 5 => rfl
  | _ + 6 => rfl
theorem key_eqT (w w' : Word) : eqT tt 12 36 (eWord (keyW w)) (eWord w') = true := by with_unfolding_all rfl

set_option maxHeartbeats 8000000 in
set_option maxRecDepth 100000 in
theorem true_look (c : CrowdS) (a : Act) (r : Reply) (n : Nat) (L : Int) (kvs : List (D × D)) (hinv : Inv L c) (hnet : c.net.length ≤ 2000) (hs : SaidOK L c kvs) (m : Nat) (hm : keptN a r n = m) (hmn : m ≤ c.net.length) (hn : n ≤ 2000) :
    Fn Try.prog 46 [.ptr 0 [], .data (eAct a), .data (eReply r), .ptr 2 [], .ptr 3 [], .ptr 4 []] (CE c ++ [.var (I n) [], .var (I L) [], .ref (.mp 5), .map kvs]) (.data (.bool true)) (CE c ++ [.var (I c.net.length) [], .var (I L) [], .ref (.mp 5), .map (saidF m c.net kvs (c.net.drop m).length)]) := by
  refine spec_of ttok Try.func46 rfl (by kernel_rfl) (by exact Nat.le_of_ble_eq_true rfl) fun hin hie c0 hc0 he => ?_
  have hn0 : c0.es.length ≤ 6 := Nat.le_of_eq (by rw [he]; rfl)
  refine R [] ?_
  refine R [Hint.on [0, 1] (CE c) (.data (eLetters c.net))] (ho := by exact ⟨crowdNet_spec c hnet, trivial⟩) ?_
  refine W.seq (R [] ?_)
  refine C (fun hb => ?pa) (fun hb => ?pb)
  case' pa =>
    have hb : (bif a.kind == 3 then r.code == 0 else false) = true := hb
    rw [bif_and] at hb
    simp only [Bool.and_eq_true, beq_iff_eq] at hb
    have hw : IntKind.i64.wrap ((n : Int) - 1) = m := by
      unfold keptN at hm
      rw [if_pos hb] at hm
      rw [i64_wrap (by omega) (by omega), hm]
    refine R1 [] ?_
    refine W.ents (es' := CE c ++ [.var (I m) [], .var (I L) [], .ref (.mp 5), .map kvs, .var (eAct a) [], .var (eReply r) []]) ?_ ?_
    · with_unfolding_all exact congrArg (fun v => CE c ++ [.var (I v) [], .var (I L) [], .ref (.mp 5), .map kvs, .var (eAct a) [], .var (eReply r) []]) hw
  case' pb =>
    have hb : (bif a.kind == 3 then r.code == 0 else false) = false := hb
    rw [bif_and] at hb
    have hw : (n : Int) = m := by
      unfold keptN at hm
      rw [if_neg (fun h => by rw [h.1, h.2] at hb; simp at hb)] at hm
      exact hm
    obtain rfl : m = n := by omega
    refine W.skip ?_
  all_goals
  clear hb hw
  refine W.le hc0 (Le.cut [(0, .ptr 0 []), (3, .ptr 2 []), (4, .ptr 3 []), (5, .ptr 4 []), (10, .data (eLetters c.net))] 6 (by omega) (es' := CE c ++ [.var (I m) [], .var (I L) [], .ref (.mp 5), .map kvs]) ⟨⟨by with_unfolding_all rfl, rfl⟩, ⟨by with_unfolding_all rfl, rfl⟩, ⟨by with_unfolding_all rfl, rfl⟩, ⟨by with_unfolding_all rfl, rfl⟩, ⟨by with_unfolding_all rfl, rfl⟩, trivial⟩ (by with_unfolding_all rfl)) ?_
  refine W.seq (R [] ?_)
  refine C (fun hb => ?_) (fun hb => ?_)
  · exfalso
    have hb : (bif decide ((m : Int) < 0) then true else decide (((c.net.map eLetter).length : Int) < m)) = true := hb
    rw [bif_or, List.length_map] at hb
    simp only [Bool.or_eq_true, decide_eq_true_eq] at hb
    omega
  clear hb
  refine W.skip ?_
  have hdl : (c.net.map eLetter).drop m = (c.net.drop m).map eLetter := by rw [List.map_drop]
  have hS := saidF_ok hinv hs m
  generalize hX : c.net.drop m = X at hdl hS
  have hXl : X.length ≤ 2000 := by rw [← hX, List.length_drop]; omega
  have hXm : ∀ x ∈ X, x ∈ c.net := fun x hx => List.mem_of_mem_drop (by rw [hX]; exact hx)
  refine W.seq (R [.is 37 (.data (eLetters X))] (ho := by exact ⟨congrArg (fun l => AV.data (.list l)) hdl, ⟨by show (0 : Int) ≤ m; omega, trivial, by show m ≤ _; rw [List.length_map]; exact hmn, Nat.le_refl _⟩, sizes_letters _, trivial⟩) ?_)
  refine W.block (W.loop hc0 (ι := Nat) (fun k => ⟨73, frOf [(0, .ptr 0 []), (3, .ptr 2 []), (4, .ptr 3 []), (5, .ptr 4 []), (10, .data (eLetters c.net)), (37, .data (eLetters X)), (38, .data (I ((X.map eLetter).length : Int))), (39, .data (I k))], CE c ++ [.var (I m) [], .var (I L) [], .ref (.mp 5), .map (saidF m c.net kvs k)]⟩) (fun k => k ≤ X.length) (fun k => X.length - k) 0 (by omega) ?_ ?_)
  · exact Le.cut _ 6 (by omega) ⟨⟨by with_unfolding_all rfl, rfl⟩, ⟨by with_unfolding_all rfl, rfl⟩, ⟨by with_unfolding_all rfl, rfl⟩, ⟨by with_unfolding_all rfl, rfl⟩, ⟨by with_unfolding_all rfl, rfl⟩, ⟨by with_unfolding_all rfl, rfl⟩, ⟨by with_unfolding_all rfl, rfl⟩, ⟨by with_unfolding_all rfl, rfl⟩, trivial⟩ (by with_unfolding_all rfl)
  · intro k hk
    refine R [] ?_
    refine W.seq (C (fun hb => ?_) (fun hb => ?_))
    · have hk : k < X.length := by have hb : (k : Int) < (X.map eLetter).length := of_decide_eq_true hb; rw [List.length_map] at hb; omega
      have hki : (0 : Int) ≤ k ∧ (k : Int) < (X.map eLetter).length := ⟨by omega, by rw [List.length_map]; omega⟩
      have hcp := cptr_letters X hk
      have hxm := hXm _ (getD_mem X hk Letter.zero)
      have hk1 := hS k (by omega)
      have hk2 : saidF m c.net kvs (k + 1) = setD (saidF m c.net kvs k) (eWord (keyW (X.getD k Letter.zero).word)) (I (saidV (X.getD k Letter.zero).word)) := by rw [saidF, hX]
      generalize X.getD k Letter.zero = x at hcp hxm hk2
      generalize saidF m c.net kvs k = kv at hk1 hk2
      clear hb
      refine W.skip (W.seq (W.block ?_))
      refine R [.is 41 (.cptr (eLetter x))] (ho := by exact ⟨hcp, hki, sizes_letters _, sameLL _ _, trivial⟩) ?_
      refine R [] (ho := by exact ⟨sameWW _ _, trivial⟩) ?_
      refine R [] ?_
      refine R [] ?_
      refine W.ents (es' := CE c ++ [.var (I m) [], .var (I L) [], .ref (.mp 5), .map kv, .var (eLetter x) [], .var (eWord (keyW x.word)) []]) ?_ ?_
      · with_unfolding_all exact congrArg (fun d => CE c ++ [.var (I m) [], .var (I L) [], .ref (.mp 5), .map kv, .var (eLetter x) [], .var d []]) (word_key x.word)
      obtain ⟨v, hv, hvw⟩ := hk1.look x.word
      have hky := hk1.keys (tt := tt) (kt := 36) x.word (fun w' => key_eqT _ _)
      refine W.seq (R [.is 57 (.data (I v)), .is 63 (.data (I v))] (ho := by exact ⟨fun _ => congrArg AV.data hv, fun _ => hky, fun _ => congrArg AV.data hv, fun _ => hky, trivial⟩) ?_)
      refine C (fun hb => ?_) (fun hb => ?_)
      · exfalso
        have hb : (bif (bif !(x.word.frm == L) then !(v == 0) else false) then !(v == saidV x.word) else false) = true := hb
        rw [bif_and, bif_and] at hb
        simp only [Bool.and_eq_true, Bool.not_eq_true', beq_eq_false_iff_ne] at hb
        obtain ⟨⟨g1, g2⟩, g3⟩ := hb
        obtain ⟨e1, e2⟩ := said_true hinv hxm g1
        rcases hvw g1 e2 with h | h
        · exact g2 h
        · exact g3 (h.trans e1)
      refine W.skip ?_
      refine R1 [] (ho := by exact ⟨hky, trivial⟩) ?_
      refine R1 [] ?_
      refine ⟨k + 1, by omega, by omega, Le.cut _ 6 (by omega) ⟨⟨by with_unfolding_all rfl, rfl⟩, ⟨by with_unfolding_all rfl, rfl⟩, ⟨by with_unfolding_all rfl, rfl⟩, ⟨by with_unfolding_all rfl, rfl⟩, ⟨by with_unfolding_all rfl, rfl⟩, ⟨by with_unfolding_all rfl, rfl⟩, ⟨by with_unfolding_all rfl, rfl⟩, ⟨sl_int (wrap_up (by omega)), rfl⟩, trivial⟩ ?_⟩
      rw [hk2]
      with_unfolding_all rfl
    · have hk : k = X.length := by have hb : ¬ (k : Int) < (X.map eLetter).length := of_decide_eq_false hb; rw [List.length_map] at hb; omega
      subst hk
      refine W.exit ?_
      refine R [] ?_
      have hl : ((c.net.map eLetter).length : Int) = c.net.length := by rw [List.length_map]
      refine W.ents (es' := CE c ++ [.var (I c.net.length) [], .var (I L) [], .ref (.mp 5), .map (saidF m c.net kvs X.length)]) ?_ ?_
      · with_unfolding_all exact congrArg (fun v => CE c ++ [.var (I v) [], .var (I L) [], .ref (.mp 5), .map (saidF m c.net kvs X.length)]) hl
      refine R [] ?_
      exact W.ret (EndB 6 hn0 rfl)

set_option maxHeartbeats 8000000 in
set_option maxRecDepth 100000 in
theorem topTrue_spec (n : Int) (l : List Act) : Pure Try.prog 14 [.data (I n), .data (eActs l)] (.data (.bool true)) := by
  refine spec_of ttok Try.func14 rfl (by kernel_rfl) (by exact Nat.le_of_ble_eq_true rfl) fun hin hie c0 hc0 he => ?_
  have hn0 : c0.es.length ≤ 0 := Nat.le_of_eq (by rw [he]; rfl)
  have hL := liesV_bd n
  refine R [] ?_
  have hlies := lies_top n
  generalize liesV n = liar at hL hlies
  refine R [.data (I liar)] (ho := by exact ⟨hlies, trivial⟩) ?_
  refine R [] ?_
  refine R [] ?_
  obtain ⟨Z, hZ0, hZ⟩ := chainZ (X := Nat × List (D × D)) (fun i z => z.1 = (playC (newC liar) (l.take i)).net.length ∧ SaidOK liar (playC (newC liar) (l.take i)) z.2)
    (fun i z z' => ∀ c x y, Played liar c i → c = playC (newC liar) (l.take i) → x = l.getD i Act.zero → y = doC c x →
      Fn Try.prog 46 [.ptr 0 [], .data (eAct x), .data (eReply y.2), .ptr 2 [], .ptr 3 [], .ptr 4 []] (CE y.1 ++ [.var (I z.1) [], .var (I liar) [], .ref (.mp 5), .map z.2]) (.data (.bool true)) (CE y.1 ++ [.var (I z'.1) [], .var (I liar) [], .ref (.mp 5), .map z'.2]))
    (0, []) (min 300 l.length) ⟨rfl, .nil _ _⟩ fun i z hi ⟨h1, h2⟩ => by
      have hp := Played.play liar l i (by omega) (by omega)
      have hT := playC_take (newC liar) l (show i < l.length by omega)
      rw [hT]
      generalize playC (newC liar) (l.take i) = c at hp h1 h2
      generalize l.getD i Act.zero = x
      have hp' := hp.do (by omega) x
      obtain ⟨k0, k1⟩ := doC_kept c x hp.net
      rw [← h1] at k0 k1
      obtain ⟨m, hm⟩ := Int.eq_ofNat_of_zero_le k0
      have h3 := h2.do x
      refine ⟨((doC c x).1.net.length, saidF m (doC c x).1.net z.2 ((doC c x).1.net.drop m).length), ⟨rfl, saidF_ok hp'.inv h3 m _ (Nat.le_refl _)⟩, fun c' x' y' _ hc hx hy => ?_⟩
      subst hc; subst hx; subst hy
      exact true_look (doC c' x').1 x' (doC c' x').2 z.1 liar z.2 hp'.inv hp'.net h3 m hm (by omega) (by rw [h1]; exact hp.net)
  obtain ⟨z, hp⟩ := play_map liar l hL 46 Z (I liar) fun i c x y h3 hl hp hc hx hy => hZ i (by omega) c x y hp hc hx hy
  rw [hZ0] at hp
  refine R [Hint.on [3, 0, 2, 1] [.var (I z.1) [], .var (I liar) [], .ref (.mp 3), .map z.2] (.tuple [.undef, .data (.bool true)])] (ho := by exact ⟨hp, trivial⟩) ?_
  refine R [] ?_
  exact W.ret (EndB 0 hn0 rfl)

end Go.W
