/-
  Texts for the law CrowdTrue: Tg.
-/
import Derived.Test.YthpjdjofcbnoiabK2
import Derived.Test.YthpjdjofcbnoiabPo

/-
  Whether a crowd answers at all (package keep); the law CrowdTrue.
-/
namespace Go.W
open Go.Proofs

set_option maxHeartbeats 4000000 in
set_option maxRecDepth 100000 in
theorem alive_keep : Pure Try.prog 43 [] (.data (.bool true)) := by
  refine spec_of ttok Try.func43 rfl (by kernel_rfl) (by exact Nat.le_of_ble_eq_true rfl) fun hin hie c0 hc0 he => ?_
  have hn0 : c0.es.length ≤ 0 := Nat.le_of_eq (by rw [he]; rfl)
  obtain ⟨c, s, e, h1, h2, h3⟩ := alive_fact
  have hdo := do_no (c := newC (-1)) (a := a0) (Nat.zero_le _) ⟨by decide, by decide⟩ (fun h => absurd h.2.1 (by decide))
  rw [e] at hdo
  refine R [] ?_
  refine R [Hint.on [] (CE (newC (-1))) (.tuple [.ptr 0 [], .data (I 0)])] (ho := by exact ⟨newC_ok (-1) (by omega), trivial⟩) ?_
  refine W.seq (R [] ?_)
  refine CF ?_
  refine W.skip ?_
  refine R [Hint.on [0, 1] (CE c) (.data (eReply ⟨0, 6, s⟩))] (ho := by with_unfolding_all exact ⟨fn_act hdo (actD (a := a0) rfl rfl rfl rfl rfl rfl (fun _ => rfl)), sameRR _ _, trivial⟩) ?_
  refine R [(Hint.on [0, 1] (CE c) (.data (eLetters c.net))).take, (Hint.on [0, 1] (CE c) (.data (eNode (c.nodes 0)))).take] (ho := ?ob) ?_
  case ob =>
    have hl : ((c.net.map eLetter).length : Int) = 6 := by rw [List.length_map]; omega
    refine ⟨rfl, crowdNet_spec c (by omega), beq_of hl, crowdNode_spec c 0 (by omega) h3, trivial⟩
  refine W.ret (EndB 0 hn0 ?_)
  have hl : (((c.net.map eLetter).length : Int) == 6) = true := beq_of (by rw [List.length_map]; omega)
  exact bifh2 hl (beq_of h2)

theorem tmod5' (n : Int) : (n % 5 = Int.tmod n 5 ∧ 0 ≤ n) ∨ (Int.tmod n 5 = - ((-n) % 5) ∧ n < 0) := by
  rcases Int.lt_or_le n 0 with h | h
  · right
    refine ⟨?_, h⟩
    have : Int.tmod n 5 = - Int.tmod (-n) 5 := by rw [Int.neg_tmod]; omega
    rw [this, Int.tmod_eq_emod_of_nonneg (by omega)]
  · exact .inl ⟨(Int.tmod_eq_emod_of_nonneg h).symm, h⟩
theorem cell_set (v : Nat → Nat → Int) (i h : Nat) (x : Int) : (eInts44 v).set [i, h] (I x) = eInts44 (upd v i (upd (v i) h x)) := by
  have e := votes_set (v i) h x
  have : (eInts44 v).set [i, h] (I x) = (eInts44 v).set [i] (eVotes (upd (v i) h x)) := by
    simp only [eInts44, D.set, set_nil]
    congr 1
    funext j
    rw [← e]
  rw [this, inner_set]

set_option maxHeartbeats 8000000 in
set_option maxRecDepth 100000 in
theorem crowdTrue_spec (all n : Nat → Int) (x : Int) (tell : Nat → Int) : Pure Try.prog 11 [.data (eVotes all), .data (eVotes n), .data (I x), .data (eVotes tell)] (.data (.bool true)) := by
  refine spec_of ttok Try.func11 rfl (by kernel_rfl) (by exact Nat.le_of_ble_eq_true rfl) fun hin hie c0 hc0 he => ?_
  have hn0 : c0.es.length ≤ 0 := Nat.le_of_eq (by rw [he]; rfl)
  refine R [] ?_
  refine R [] ?_
  refine R [] ?_
  refine W.seq (R [] ?_)
  refine W.block (W.loop hc0 (ι := Nat) (fun h => ⟨94, frOf [(2, .data (I x)), (4, .ptr 0 []), (5, .ptr 1 []), (7, .ptr 2 []), (9, .ptr 3 []), (10, .data (I 0)), (19, .data (eVotes all)), (20, .data (I h))], [.var (eVotes (fixH all h)) [], .var (eVotes n) [], .var (eVotes tell) [], .var (eInts44 fun _ _ => 0) []]⟩) (fun h => h ≤ 4) (fun h => 4 - h) 0 (by omega) ?_ ?_)
  · refine Le.cut _ 4 (by omega) ⟨⟨by with_unfolding_all rfl, rfl⟩, ⟨by with_unfolding_all rfl, rfl⟩, ⟨by with_unfolding_all rfl, rfl⟩, ⟨by with_unfolding_all rfl, rfl⟩, ⟨by with_unfolding_all rfl, rfl⟩, ⟨by with_unfolding_all rfl, rfl⟩, ⟨by with_unfolding_all rfl, rfl⟩, ⟨by with_unfolding_all rfl, rfl⟩, trivial⟩ ?_
    have : fixH all 0 = all := by funext j; unfold fixH; rw [if_neg (by omega)]
    rw [this]
    with_unfolding_all rfl
  · intro h hh
    refine R [] ?_
    refine W.seq (C (fun hb => ?_) (fun hb => ?_))
    · have hh : h < 4 := by have := of_decide_eq_true hb; omega
      have hhi : (0 : Int) ≤ h ∧ (h : Int) < 4 := by omega
      clear hb
      refine W.skip (W.seq (W.block ?_))
      refine R [] (ho := by exact ⟨hhi, trivial⟩) ?_
      refine R [] ?_
      refine C (fun hb => ?_) (fun hb => ?_)
      · have hv : fixV (all h) = 1 := by
          have hb : (bif decide (all h < 1) then true else decide (9 < all h)) = true := hb
          rw [bif_or] at hb
          simp only [Bool.or_eq_true, decide_eq_true_eq] at hb
          unfold fixV; rw [if_pos hb]
        refine R1 [] (ho := by exact ⟨hhi, trivial⟩) ?_
        refine R1 [] ?_
        refine ⟨h + 1, by omega, by omega, Le.cut _ 4 (by omega) ⟨⟨by with_unfolding_all rfl, rfl⟩, ⟨by with_unfolding_all rfl, rfl⟩, ⟨by with_unfolding_all rfl, rfl⟩, ⟨by with_unfolding_all rfl, rfl⟩, ⟨by with_unfolding_all rfl, rfl⟩, ⟨by with_unfolding_all rfl, rfl⟩, ⟨by with_unfolding_all rfl, rfl⟩, ⟨sl_int (wrap_up (by omega)), rfl⟩, trivial⟩ ?_⟩
        have e := votes_set (fixH all h) h 1
        rw [← hv, fixH_upd] at e
        rw [hv] at e
        with_unfolding_all exact congrArg (fun d => [Ent.var d [], .var (eVotes n) [], .var (eVotes tell) [], .var (eInts44 fun _ _ => 0) []]) e
      · have hv : fixV (all h) = all h := by
          have hb : (bif decide (all h < 1) then true else decide (9 < all h)) = false := hb
          rw [bif_or] at hb
          simp only [Bool.or_eq_false_iff, decide_eq_false_iff_not] at hb
          unfold fixV; rw [if_neg (by omega)]
        have e : fixH all (h + 1) = fixH all h := by
          rw [← fixH_upd, hv]
          funext j
          by_cases ej : j = h
          · subst ej; rw [upd_same]; unfold fixH; rw [if_neg (by omega)]
          · rw [upd_other _ _ ej]
        refine W.skip ?_
        refine R1 [] ?_
        refine ⟨h + 1, by omega, by omega, Le.cut _ 4 (by omega) ⟨⟨by with_unfolding_all rfl, rfl⟩, ⟨by with_unfolding_all rfl, rfl⟩, ⟨by with_unfolding_all rfl, rfl⟩, ⟨by with_unfolding_all rfl, rfl⟩, ⟨by with_unfolding_all rfl, rfl⟩, ⟨by with_unfolding_all rfl, rfl⟩, ⟨by with_unfolding_all rfl, rfl⟩, ⟨sl_int (wrap_up (by omega)), rfl⟩, trivial⟩ ?_⟩
        rw [e]
        with_unfolding_all rfl
    · have hh : h = 4 := by have := of_decide_eq_false hb; omega
      subst hh
      clear hb
      generalize fixH all 4 = al
      refine W.exit ?_
      refine W.seq (R [] ?_)
      refine W.block (W.loop hc0 (ι := Nat) (fun i => ⟨94, frOf [(2, .data (I x)), (4, .ptr 0 []), (5, .ptr 1 []), (7, .ptr 2 []), (9, .ptr 3 []), (10, .data (I (longI n x i))), (33, .data (I i))], [.var (eVotes al) [], .var (eVotes n) [], .var (eVotes tell) [], .var (eInts44 (tellI al n tell x i)) []]⟩) (fun i => i ≤ 4) (fun i => 4 - i) 0 (by omega) ?_ ?_)
      · refine Le.cut _ 4 (by omega) ⟨⟨by with_unfolding_all rfl, rfl⟩, ⟨by with_unfolding_all rfl, rfl⟩, ⟨by with_unfolding_all rfl, rfl⟩, ⟨by with_unfolding_all rfl, rfl⟩, ⟨by with_unfolding_all rfl, rfl⟩, ⟨by with_unfolding_all rfl, rfl⟩, ⟨by with_unfolding_all rfl, rfl⟩, trivial⟩ ?_
        have : tellI al n tell x 0 = fun _ _ => 0 := by funext k j; unfold tellI; rw [if_neg (by omega)]
        rw [this]
        with_unfolding_all rfl
      · intro i hi
        have hlb := longI_bd n x i
        refine R [] ?_
        refine W.seq (C (fun hb => ?_) (fun hb => ?_))
        · have hi : i < 4 := by have := of_decide_eq_true hb; omega
          have hii : (0 : Int) ≤ i ∧ (i : Int) < 4 := by omega
          clear hb
          have hK := numK_lt n i
          refine W.skip (W.seq (W.block ?_))
          refine R [] ?_
          have h1 := tmod5' (n i)
          have h2 : IntKind.i64.wrap (Int.tmod (n i) 5) = Int.tmod (n i) 5 := by refine i64_wrap ?_ ?_ <;> omega
          have h3 : IntKind.i64.wrap (IntKind.i64.wrap (Int.tmod (n i) 5 + 4) + 1) = Int.tmod (n i) 5 + 5 := by
            rw [i64_wrap (n := Int.tmod (n i) 5 + 4) (by omega) (by omega), i64_wrap (by omega) (by omega)]; omega
          have h4 : Int.tmod (Int.tmod (n i) 5 + 5) 5 = (numK n i : Int) := by
            rw [Int.tmod_eq_emod_of_nonneg (by omega)]; unfold numK; omega
          refine R [.is 42 (.data (I (numK n i : Int)))] (ho := ?ob) ?_
          case ob =>
            have e : IntKind.i64.wrap ((IntKind.i64.wrap (IntKind.i64.wrap (Int.tmod (n i) 5 + 4) + 1)).tmod 5) = (IntKind.i64.wrap (IntKind.i64.wrap (Int.tmod (n i) 5 + 4) + 1)).tmod 5 := by rw [h3, h4]; exact i64_wrap (by omega) (by omega)
            exact ⟨hii, by omega, h2, congrArg (fun v => AV.data (I v)) (by rw [h3, h4] : (IntKind.i64.wrap (IntKind.i64.wrap (Int.tmod (n i) 5 + 4) + 1)).tmod 5 = (numK n i : Int)), by omega, e, trivial⟩
          clear h1 h2 h3 h4
          refine W.seq (R [] ?_)
          refine C (fun hb => ?zp) (fun hb => ?zq)
          case' zp =>
            have hx : ¬ (i : Int) = x := by
              have hb : (!((i : Int) == x)) = true := hb
              simpa using hb
            have e : max (longI n x i) (numK n i : Int) = longI n x (i + 1) := by simp only [longI]; rw [if_neg hx]
            have e' : (if longI n x i < (numK n i : Int) then (numK n i : Int) else longI n x i) = longI n x (i + 1) := by rw [← e]; simp only [Int.max_def]; split <;> split <;> omega
            refine R1 [] ?_
            refine W.le hc0 (Le.cut [(2, .data (I x)), (4, .ptr 0 []), (5, .ptr 1 []), (7, .ptr 2 []), (9, .ptr 3 []), (10, .data (I (longI n x (i + 1)))), (13, .data (I i)), (14, .data (I (numK n i : Int))), (33, .data (I i))] 4 (by omega) (es' := [.var (eVotes al) [], .var (eVotes n) [], .var (eVotes tell) [], .var (eInts44 (tellI al n tell x i)) []]) ⟨⟨by with_unfolding_all rfl, rfl⟩, ⟨by with_unfolding_all rfl, rfl⟩, ⟨by with_unfolding_all rfl, rfl⟩, ⟨by with_unfolding_all rfl, rfl⟩, ⟨by with_unfolding_all rfl, rfl⟩, ⟨sl_int ?ze1, rfl⟩, ⟨by with_unfolding_all rfl, rfl⟩, ⟨by with_unfolding_all rfl, rfl⟩, ⟨by with_unfolding_all rfl, rfl⟩, trivial⟩ (by with_unfolding_all rfl)) ?zpp
            case ze1 => exact e'
          case' zq =>
            have hx : (i : Int) = x := by
              have hb : (!((i : Int) == x)) = false := hb
              simpa using hb
            have e : longI n x i = longI n x (i + 1) := by simp only [longI]; rw [if_pos hx]
            refine W.skip ?_
            refine W.le hc0 (Le.cut [(2, .data (I x)), (4, .ptr 0 []), (5, .ptr 1 []), (7, .ptr 2 []), (9, .ptr 3 []), (10, .data (I (longI n x (i + 1)))), (13, .data (I i)), (14, .data (I (numK n i : Int))), (33, .data (I i))] 4 (by omega) (es' := [.var (eVotes al) [], .var (eVotes n) [], .var (eVotes tell) [], .var (eInts44 (tellI al n tell x i)) []]) ⟨⟨by with_unfolding_all rfl, rfl⟩, ⟨by with_unfolding_all rfl, rfl⟩, ⟨by with_unfolding_all rfl, rfl⟩, ⟨by with_unfolding_all rfl, rfl⟩, ⟨by with_unfolding_all rfl, rfl⟩, ⟨sl_int ?ze2, rfl⟩, ⟨by with_unfolding_all rfl, rfl⟩, ⟨by with_unfolding_all rfl, rfl⟩, ⟨by with_unfolding_all rfl, rfl⟩, trivial⟩ (by with_unfolding_all rfl)) ?zqq
            case ze2 => exact e
          all_goals
            refine W.seq (R [] ?_)
            refine W.block (W.loop hc0 (ι := Nat) (fun h => ⟨94, frOf [(2, .data (I x)), (4, .ptr 0 []), (5, .ptr 1 []), (7, .ptr 2 []), (9, .ptr 3 []), (10, .data (I (longI n x (i + 1)))), (13, .data (I i)), (14, .data (I (numK n i : Int))), (33, .data (I i)), (49, .data (I (numK n i : Int))), (50, .data (I h))], [.var (eVotes al) [], .var (eVotes n) [], .var (eVotes tell) [], .var (eInts44 (upd (tellI al n tell x i) i (begH al h))) []]⟩) (fun h => h ≤ numK n i) (fun h => numK n i - h) 0 (by omega) ?_ ?_)
            · refine Le.cut _ 4 (by omega) ⟨⟨by with_unfolding_all rfl, rfl⟩, ⟨by with_unfolding_all rfl, rfl⟩, ⟨by with_unfolding_all rfl, rfl⟩, ⟨by with_unfolding_all rfl, rfl⟩, ⟨by with_unfolding_all rfl, rfl⟩, ⟨by with_unfolding_all rfl, rfl⟩, ⟨by with_unfolding_all rfl, rfl⟩, ⟨by with_unfolding_all rfl, rfl⟩, ⟨by with_unfolding_all rfl, rfl⟩, ⟨by with_unfolding_all rfl, rfl⟩, ⟨by with_unfolding_all rfl, rfl⟩, trivial⟩ ?_
              have : upd (tellI al n tell x i) i (begH al 0) = tellI al n tell x i := by
                funext k
                by_cases ek : k = i
                · subst ek; rw [upd_same]; funext j; unfold begH tellI; rw [if_neg (by omega), if_neg (by omega)]
                · rw [upd_other _ _ ek]
              rw [this]
              with_unfolding_all rfl
            · intro h hh
              refine R [] ?_
              refine W.seq (C (fun hb => ?_) (fun hb => ?_))
              · have hh : h < numK n i := by have := of_decide_eq_true hb; omega
                have hhi : (0 : Int) ≤ h ∧ (h : Int) < 4 := by omega
                clear hb
                refine W.skip (W.seq (W.block ?_))
                refine R [] ?_
                refine RD1 [] (ho := by exact ⟨hhi, hii, hhi, trivial⟩) ?_
                refine R1 [] ?_
                refine ⟨h + 1, by omega, by omega, Le.cut _ 4 (by omega) ⟨⟨by with_unfolding_all rfl, rfl⟩, ⟨by with_unfolding_all rfl, rfl⟩, ⟨by with_unfolding_all rfl, rfl⟩, ⟨by with_unfolding_all rfl, rfl⟩, ⟨by with_unfolding_all rfl, rfl⟩, ⟨by with_unfolding_all rfl, rfl⟩, ⟨by with_unfolding_all rfl, rfl⟩, ⟨by with_unfolding_all rfl, rfl⟩, ⟨by with_unfolding_all rfl, rfl⟩, ⟨by with_unfolding_all rfl, rfl⟩, ⟨sl_int (wrap_up (by omega)), rfl⟩, trivial⟩ ?_⟩
                have e := cell_set (upd (tellI al n tell x i) i (begH al h)) i h (al h)
                rw [upd_same, upd_upd, begH_upd] at e
                with_unfolding_all exact congrArg (fun d => [Ent.var (eVotes al) [], .var (eVotes n) [], .var (eVotes tell) [], .var d []]) e
              · have hh : h = numK n i := by have := of_decide_eq_false hb; omega
                subst hh
                clear hb
                refine W.exit ?_
                refine R [] ?_
                refine C (fun hb => ?_) (fun hb => ?_)
                · have hx : (i : Int) = x := by
                    have hb : ((i : Int) == x) = true := hb
                    simpa using hb
                  refine R1 [] (ho := by exact ⟨hii, sameVV _ _, trivial⟩) ?_
                  refine R1 [] ?_
                  refine ⟨i + 1, by omega, by omega, Le.cut _ 4 (by omega) ⟨⟨by with_unfolding_all rfl, rfl⟩, ⟨by with_unfolding_all rfl, rfl⟩, ⟨by with_unfolding_all rfl, rfl⟩, ⟨by with_unfolding_all rfl, rfl⟩, ⟨by with_unfolding_all rfl, rfl⟩, ⟨by with_unfolding_all rfl, rfl⟩, ⟨sl_int (wrap_up (by omega)), rfl⟩, trivial⟩ ?_⟩
                  have e := inner_set (upd (tellI al n tell x i) i (begH al (numK n i))) i tell
                  rw [upd_upd] at e
                  have er : rowT al n tell x i = tell := by unfold rowT; rw [if_pos hx]
                  rw [← tellI_upd, er, ← e]
                  with_unfolding_all rfl
                · have hx : ¬ (i : Int) = x := by
                    have hb : ((i : Int) == x) = false := hb
                    simpa using hb
                  refine W.skip ?_
                  refine R1 [] ?_
                  refine ⟨i + 1, by omega, by omega, Le.cut _ 4 (by omega) ⟨⟨by with_unfolding_all rfl, rfl⟩, ⟨by with_unfolding_all rfl, rfl⟩, ⟨by with_unfolding_all rfl, rfl⟩, ⟨by with_unfolding_all rfl, rfl⟩, ⟨by with_unfolding_all rfl, rfl⟩, ⟨by with_unfolding_all rfl, rfl⟩, ⟨sl_int (wrap_up (by omega)), rfl⟩, trivial⟩ ?_⟩
                  have er : rowT al n tell x i = begH al (numK n i) := by unfold rowT; rw [if_neg hx]
                  rw [← tellI_upd, er]
                  with_unfolding_all rfl
        · have hi : i = 4 := by have := of_decide_eq_false hb; omega
          subst hi
          clear hb
          have hbeg := fun h => @take_beg al n tell x h
          generalize tellI al n tell x 4 = L at hbeg ⊢
          generalize longI n x 4 = lg at hbeg ⊢
          refine W.exit ?_
          refine R [.data (eVotes (takeV L))] (ho := by exact ⟨take_spec L, sameVV _ _, trivial⟩) ?_
          generalize takeV L = tk at hbeg ⊢
          refine R [] ?_
          refine W.seq (R [] ?_)
          refine W.block (W.loop hc0 (ι := Nat) (fun h => ⟨94, frOf [(4, .ptr 0 []), (10, .data (I lg)), (16, .ptr 4 []), (17, .data (.bool (endH tk h))), (70, .data (I h))], [.var (eVotes al) [], .var (eVotes n) [], .var (eVotes tell) [], .var (eInts44 L) [], .var (eVotes tk) []]⟩) (fun h => h ≤ 4) (fun h => 4 - h) 0 (by omega) ?_ ?_)
          · exact Le.cut _ 5 (by omega) ⟨⟨by with_unfolding_all rfl, rfl⟩, ⟨by with_unfolding_all rfl, rfl⟩, ⟨by with_unfolding_all rfl, rfl⟩, ⟨by with_unfolding_all rfl, rfl⟩, ⟨by with_unfolding_all rfl, rfl⟩, trivial⟩ (by with_unfolding_all rfl)
          · intro h hh
            refine R [] ?_
            refine W.seq (C (fun hb => ?_) (fun hb => ?_))
            · have hh : h < 4 := by have := of_decide_eq_true hb; omega
              have hhi : (0 : Int) ≤ h ∧ (h : Int) < 4 := by omega
              clear hb
              refine W.skip (W.seq (W.block ?_))
              refine R [] ?_
              refine R [] (ho := by exact ⟨hhi, trivial⟩) ?_
              refine C (fun hb => ?_) (fun hb => ?_)
              · have h0 : (tk h == 0) = true := hb
                refine R1 [] ?_
                refine R1 [] ?_
                refine ⟨h + 1, by omega, by omega, Le.cut _ 5 (by omega) ⟨⟨by with_unfolding_all rfl, rfl⟩, ⟨by with_unfolding_all rfl, rfl⟩, ⟨by with_unfolding_all rfl, rfl⟩, ⟨sl_bool (a := true) (by simp only [endH]; rw [h0, Bool.or_true]), rfl⟩, ⟨sl_int (wrap_up (by omega)), rfl⟩, trivial⟩ (by with_unfolding_all rfl)⟩
              · have h0 : (tk h == 0) = false := hb
                clear hb
                obtain ⟨g1, g2, g3⟩ := hbeg h (by simpa using h0)
                refine RD [] (ho := by exact ⟨fun _ => hhi, fun _ => hhi, trivial⟩) ?_
                refine C (fun hb => ?_) (fun hb => ?_)
                · exfalso
                  have hb : (bif (bif endH tk h then true else !(tk h == al h)) then true else decide (lg ≤ (h : Int))) = true := hb
                  rw [bif_or, bif_or, g1, g2] at hb
                  simp only [Bool.false_or, beq_self_eq_true, Bool.not_true, decide_eq_true_eq] at hb
                  omega
                refine W.skip ?_
                refine R1 [] ?_
                refine ⟨h + 1, by omega, by omega, Le.cut _ 5 (by omega) ⟨⟨by with_unfolding_all rfl, rfl⟩, ⟨by with_unfolding_all rfl, rfl⟩, ⟨by with_unfolding_all rfl, rfl⟩, ⟨sl_bool (a := endH tk h) (by simp only [endH]; rw [h0, Bool.or_false]), rfl⟩, ⟨sl_int (wrap_up (by omega)), rfl⟩, trivial⟩ (by with_unfolding_all rfl)⟩
            · refine W.exit ?_
              refine R [.data (.bool true)] (ho := by exact ⟨alive_keep, trivial⟩) ?_
              exact W.ret (EndB 0 hn0 rfl)

end Go.W
