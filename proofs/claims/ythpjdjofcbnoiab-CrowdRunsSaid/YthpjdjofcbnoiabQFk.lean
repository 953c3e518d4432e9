/-
  The reference's sheets, walked.
-/
import Derived.Test.YthpjdjofcbnoiabQFj
import Derived.Test.YthpjdjofcbnoiabK4
namespace Go.W
open Go.Proofs

set_option maxRecDepth 100000 in
theorem hearSheet_spec (s : Sheet) (w : Word) : Pure Try.prog 87 [.data (eSheet s), .data (eWord w)] (.data (eSheet (hearS s w))) := by
  refine spec_of ttok Try.func87 rfl (by kernel_rfl) (by exact Nat.le_of_ble_eq_true rfl) fun hin hie c0 hc0 he => ?_
  have hn0 : c0.es.length ≤ 0 := Nat.le_of_eq (by rw [he]; rfl)
  refine R [] ?_
  refine W.seq (R [.data (I (goodW w))] (ho := by exact ⟨wordError_spec w, trivial⟩) ?_)
  refine C (fun h => ?_) (fun h => ?_)
  · have hg : goodW w ≠ 0 := by simpa using h
    refine R [] (ho := by exact ⟨sameSS .zero s, trivial⟩) ?_
    refine W.ret (End 0 hn0 ⟨?_, rfl⟩)
    simp only [hearS, if_neg hg]; rfl
  have hg : goodW w = 0 := by simpa using h
  have hG := (goodW_iff w).1 hg
  have i6 := hG.round
  have i4 := hG.frm
  have hv := hG.value
  have hkd := hG.kind
  refine W.skip ?_
  have fin : ∀ {x : D} {y : Sheet}, x = eSheet y → hearS s w = y → x = eSheet (hearS s w) := fun h1 h2 => by rw [h1, h2]
  refine W.seq (W.block (RD [.data (I (leader w.height w.round))] (ho := by exact ⟨fun _ => leaderOf_spec _ _, fun _ => ⟨by omega, by omega⟩, trivial⟩) ?_))
  refine C (fun h => ?_) (fun h => ?_)
  · have hh : w.kind = 1 ∧ hHears w s = true := by
      simp only [bif_and, Bool.and_eq_true, beq_iff_eq] at h
      refine ⟨h.1.1, ?_⟩
      simp only [hHears, Bool.and_eq_true, beq_iff_eq]
      exact ⟨h.2, h.1.2⟩
    refine R1 [] (ho := by with_unfolding_all exact ⟨⟨by omega, by omega⟩, sameC (c := ⟨true, w.value, w.valid⟩) rfl rfl rfl (fun _ => rfl), trivial⟩) ?_
    refine R [] (ho := ?ob) ?_
    case ob =>
      refine ⟨?_, trivial⟩
      refine (sameSS .zero s).trans ?_
      with_unfolding_all exact set_same (p := [0, w.round.toNat]) (v := eCall (s.calls w.round.toNat)) ⟨by omega, by omega, trivial⟩ rfl (sameC (c := ⟨true, w.value, w.valid⟩) rfl rfl rfl (fun _ => rfl))
    refine W.ret (End 0 hn0 ⟨?_, rfl⟩)
    refine AV_data (fin (y := { s with calls := upd s.calls (rOf w) ⟨true, w.value, w.valid⟩ }) ?_ ?_)
    · with_unfolding_all exact sheet_set0 ((congrArg (fun d => (eCalls s.calls).set [w.round.toNat] d) (eCall_of (c := ⟨true, w.value, w.valid⟩) rfl rfl rfl (fun _ => rfl))).trans (calls_set _ _ _))
    · simp only [hearS, if_pos hg, if_pos hh.1, hh.2, if_true]
  have hn1 : ¬ (w.kind = 1 ∧ hHears w s = true) := by
    rintro ⟨h1, h2⟩
    simp only [hHears, Bool.and_eq_true, beq_iff_eq] at h2
    have : (bif (bif w.kind == 1 then w.frm == leader w.height w.round else false) then !(s.calls w.round.toNat).is else false) = false := h
    simp only [bif_and, Bool.and_eq_false_iff, beq_eq_false_iff_ne] at this
    rcases this with (h3 | h3) | h3
    · exact h3 h1
    · exact h3 h2.2
    · rw [show (!(s.calls w.round.toNat).is) = true from h2.1] at h3; cases h3
  clear h
  refine RD [] (ho := by exact ⟨fun _ => ⟨by omega, by omega⟩, fun _ => ⟨by omega, by omega⟩, trivial⟩) ?_
  refine C (fun h => ?_) (fun h => ?_)
  · have hh : w.kind = 2 ∧ s.wishes (rOf w) (fOf w) = 0 := by
      have h' : (bif w.kind == 2 then s.wishes (rOf w) (fOf w) == 0 else false) = true := h
      simpa only [bif_and, Bool.and_eq_true, beq_iff_eq] using h'
    refine RD1 [] (ho := by exact ⟨⟨by omega, by omega⟩, ⟨by omega, by omega⟩, trivial⟩) ?_
    refine R [] (ho := ?ob) ?_
    case ob =>
      refine ⟨?_, trivial⟩
      refine (sameSS .zero s).trans ?_
      with_unfolding_all exact set_same (p := [1, w.round.toNat, w.frm.toNat]) (v := I (s.wishes w.round.toNat w.frm.toNat)) ⟨by omega, by omega, by omega, trivial⟩ rfl trivial
    refine W.ret (End 0 hn0 ⟨?_, rfl⟩)
    refine AV_data (fin (y := { s with wishes := upd s.wishes (rOf w) (upd (s.wishes (rOf w)) (fOf w) (IntKind.i64.wrap (1 + w.value))) }) ?_ ?_)
    · with_unfolding_all exact sheet_set1 (votes6_set (votes_set _ _ _))
    · rw [i64_wrap (by omega) (by omega), Int.add_comm]
      simp only [hearS, if_pos hg, if_neg (show ¬ w.kind = 1 by omega), if_pos hh.1, if_pos hh.2]
  have hn2 : ¬ (w.kind = 2 ∧ s.wishes (rOf w) (fOf w) = 0) := by
    intro hh
    have h' : (bif w.kind == 2 then s.wishes (rOf w) (fOf w) == 0 else false) = false := h
    simp [hh.1, hh.2] at h'
  clear h
  refine RD [] (ho := by exact ⟨fun _ => ⟨by omega, by omega⟩, fun _ => ⟨by omega, by omega⟩, trivial⟩) ?_
  refine C (fun h => ?_) (fun h => ?_)
  · have hh : w.kind = 3 ∧ s.promises (rOf w) (fOf w) = 0 := by
      have h' : (bif w.kind == 3 then s.promises (rOf w) (fOf w) == 0 else false) = true := h
      simpa only [bif_and, Bool.and_eq_true, beq_iff_eq] using h'
    refine RD1 [] (ho := by exact ⟨⟨by omega, by omega⟩, ⟨by omega, by omega⟩, trivial⟩) ?_
    refine R [] (ho := ?ob) ?_
    case ob =>
      refine ⟨?_, trivial⟩
      refine (sameSS .zero s).trans ?_
      with_unfolding_all exact set_same (p := [2, w.round.toNat, w.frm.toNat]) (v := I (s.promises w.round.toNat w.frm.toNat)) ⟨by omega, by omega, by omega, trivial⟩ rfl trivial
    refine W.ret (End 0 hn0 ⟨?_, rfl⟩)
    refine AV_data (fin (y := { s with promises := upd s.promises (rOf w) (upd (s.promises (rOf w)) (fOf w) (IntKind.i64.wrap (1 + w.value))) }) ?_ ?_)
    · with_unfolding_all exact sheet_set2 (votes6_set (votes_set _ _ _))
    · rw [i64_wrap (by omega) (by omega), Int.add_comm]
      simp only [hearS, if_pos hg, if_neg (show ¬ w.kind = 1 by omega), if_neg (show ¬ w.kind = 2 by omega), if_pos hh.2]
  have hn3 : ¬ (w.kind = 3 ∧ s.promises (rOf w) (fOf w) = 0) := by
    intro hh
    have h' : (bif w.kind == 3 then s.promises (rOf w) (fOf w) == 0 else false) = false := h
    simp [hh.1, hh.2] at h'
  refine W.skip ?_
  refine R [] (ho := by exact ⟨sameSS .zero s, trivial⟩) ?_
  refine W.ret (End 0 hn0 ⟨?_, rfl⟩)
  refine AV_data (fin rfl ?_)
  have hk : w.kind = 1 ∨ w.kind = 2 ∨ w.kind = 3 := by omega
  rcases hk with hk | hk | hk
  · simp only [hearS, if_pos hg, if_pos hk]
    rw [if_neg fun h => hn1 ⟨hk, h⟩]
  · simp only [hearS, if_pos hg, if_neg (show ¬ w.kind = 1 by omega), if_pos hk]
    rw [if_neg fun h => hn2 ⟨hk, h⟩]
  · simp only [hearS, if_pos hg, if_neg (show ¬ w.kind = 1 by omega), if_neg (show ¬ w.kind = 2 by omega)]
    rw [if_neg fun h => hn3 ⟨hk, h⟩]

set_option maxRecDepth 100000 in
theorem heardIn_spec (s : Sheet) (r : Int) : Pure Try.prog 98 [.data (eSheet s), .data (I r)] (.data (I (heard s r))) := by
  refine spec_of ttok Try.func98 rfl (by kernel_rfl) (by exact Nat.le_of_ble_eq_true rfl) fun hin hie c0 hc0 he => ?_
  have hn0 : c0.es.length ≤ 0 := Nat.le_of_eq (by rw [he]; rfl)
  refine R [] ?_
  refine R [] ?_
  refine W.seq (R [] ?_)
  refine W.block (W.loop hc0 (ι := Nat) (fun k => ⟨34, frOf [(1, .data (I r)), (2, .ptr 0 []), (5, .data (I (hN s r.toNat k))), (6, .data (I k))], [.var (eSheet s) []]⟩) (fun k => k ≤ 4 ∧ (0 < k → ¬ (r < 0 ∨ 6 ≤ r))) (fun k => 4 - k) 0 ⟨by omega, by omega⟩ ?_ ?_)
  · exact Le.cut _ 1 (by omega) ⟨⟨by with_unfolding_all rfl, rfl⟩, ⟨by with_unfolding_all rfl, rfl⟩, ⟨by with_unfolding_all rfl, rfl⟩, ⟨by with_unfolding_all rfl, rfl⟩, trivial⟩ (by with_unfolding_all rfl)
  · intro k ⟨hk, hr⟩
    have hb := hN_bd s r.toNat k
    refine W.seq (W.seq (R1 [.data (.bool (within r 0 5))] (ho := by exact ⟨fun _ => within_spec _ _ _, trivial⟩) ?_))
    refine C (fun h => ?_) (fun h => ?_)
    · have hd : k < 4 ∧ ¬ (r < 0 ∨ 6 ≤ r) := by
        rw [bif_and] at h
        simp only [within, Bool.and_eq_true, decide_eq_true_eq] at h
        omega
      have hk := hd.1
      refine W.skip (W.seq (W.block ?_))
      refine R [] (ho := by exact ⟨⟨by omega, by omega⟩, ⟨by omega, by omega⟩, trivial⟩) ?_
      refine C (fun h => ?_) (fun h => ?_)
      · have hw : 0 < s.wishes r.toNat k := of_decide_eq_true h
        refine R1 [] ?_
        refine R1 [] ?_
        refine ⟨k + 1, ⟨by omega, fun _ => hd.2⟩, by omega, Le.cut _ 1 (by omega) ⟨⟨by with_unfolding_all rfl, rfl⟩, ⟨by with_unfolding_all rfl, rfl⟩, ⟨sl_int ?_, rfl⟩, ⟨sl_int (wrap_cast hk (by omega)), rfl⟩, trivial⟩ (by with_unfolding_all rfl)⟩
        rw [i64_wrap (by omega) (by omega), hN, if_pos (by simp [spoke, hw])]
      · have hw : ¬ 0 < s.wishes r.toNat k := of_decide_eq_false h
        refine R [] (ho := by exact ⟨⟨by omega, by omega⟩, ⟨by omega, by omega⟩, trivial⟩) ?_
        refine C (fun h => ?_) (fun h => ?_)
        · have hp : 0 < s.promises r.toNat k := of_decide_eq_true h
          refine R1 [] ?_
          refine R1 [] ?_
          refine ⟨k + 1, ⟨by omega, fun _ => hd.2⟩, by omega, Le.cut _ 1 (by omega) ⟨⟨by with_unfolding_all rfl, rfl⟩, ⟨by with_unfolding_all rfl, rfl⟩, ⟨sl_int ?_, rfl⟩, ⟨sl_int (wrap_cast hk (by omega)), rfl⟩, trivial⟩ (by with_unfolding_all rfl)⟩
          rw [i64_wrap (by omega) (by omega), hN, if_pos (by simp [spoke, hp])]
        · have hp : ¬ 0 < s.promises r.toNat k := of_decide_eq_false h
          refine W.skip ?_
          refine R1 [] ?_
          refine ⟨k + 1, ⟨by omega, fun _ => hd.2⟩, by omega, Le.cut _ 1 (by omega) ⟨⟨by with_unfolding_all rfl, rfl⟩, ⟨by with_unfolding_all rfl, rfl⟩, ⟨sl_int ?_, rfl⟩, ⟨sl_int (wrap_cast hk (by omega)), rfl⟩, trivial⟩ (by with_unfolding_all rfl)⟩
          rw [hN, if_neg (by simp only [spoke, Bool.or_eq_true, decide_eq_true_eq]; omega)]; omega
    · have hd : ¬ (k < 4 ∧ ¬ (r < 0 ∨ 6 ≤ r)) := by
        rintro ⟨h1, h2⟩
        rw [bif_and] at h
        simp only [within, Bool.and_eq_false_iff, decide_eq_false_iff_not] at h
        omega
      refine W.exit ?_
      refine R [] ?_
      refine W.ret (EndI 0 hn0 ?_)
      by_cases h4 : k = 4
      · subst h4
        simp only [heard, if_neg (hr (by omega))]
      · have hrr : r < 0 ∨ 6 ≤ r := by omega
        have hk0 : k = 0 := by
          apply Classical.byContradiction
          intro h0
          exact hr (by omega) hrr
        subst hk0
        simp only [heard, if_pos hrr, hN]

set_option maxRecDepth 100000 in
theorem isSheet_spec (s : Sheet) : Pure Try.prog 95 [.data (eSheet s)] (.data (.bool (goodS s))) := by
  refine spec_of ttok Try.func95 rfl (by kernel_rfl) (by exact Nat.le_of_ble_eq_true rfl) fun hin hie c0 hc0 he => ?_
  have hn0 : c0.es.length ≤ 0 := Nat.le_of_eq (by rw [he]; rfl)
  refine R [] ?_
  refine R [] ?_
  refine W.seq (R [] ?_)
  refine W.block (W.loop hc0 (ι := Nat) (fun k => ⟨65, frOf [(1, .ptr 0 []), (3, .data (.bool (goodK s k))), (7, .data (I k))], [.var (eSheet s) []]⟩) (fun k => k ≤ 6) (fun k => 6 - k) 0 (by omega) ?_ ?_)
  · exact Le.cut _ 1 (by omega) ⟨⟨by with_unfolding_all rfl, rfl⟩, ⟨by with_unfolding_all rfl, rfl⟩, ⟨by with_unfolding_all rfl, rfl⟩, trivial⟩ (by with_unfolding_all rfl)
  · intro k hk
    refine R [] ?_
    refine W.seq (C (fun h => ?_) (fun h => ?_))
    · have hk : k < 6 := by have := of_decide_eq_true h; omega
      have hw1 : IntKind.i64.wrap ((k : Int) - 1) = k - 1 := i64_wrap (by omega) (by omega)
      refine W.skip (W.seq (W.block ?_))
      refine R [] ?_
      refine R [] (ho := by exact ⟨⟨by omega, by omega⟩, sameCC _ _, trivial⟩) ?_
      refine W.seq (R [] ?_)
      refine C (fun h => ?_) (fun h => ?_)
      · have hc : (s.calls k).is = true := h
        refine R1 [.data (.bool (within (s.calls k).value 1 9)), .data (.bool (within (s.calls k).valid (-1) (IntKind.i64.wrap (k - 1))))] (ho := by exact ⟨fun _ => within_spec _ _ _, fun _ => within_spec _ _ _, trivial⟩) ?_
        refine W.le hc0 (Le.cut [(1, .ptr 0 []), (3, .data (.bool (goodK s k && goodC (s.calls k) k))), (4, .data (I k)), (7, .data (I k))] 1 (by omega) ⟨⟨by with_unfolding_all rfl, rfl⟩, ⟨sl_bool ?eq, rfl⟩, ⟨by with_unfolding_all rfl, rfl⟩, ⟨by with_unfolding_all rfl, rfl⟩, trivial⟩ (by with_unfolding_all rfl)) ?rest
        case eq => simp only [bif_and, hw1, goodC, hc, if_true, Bool.and_assoc]
        case rest =>
          refine R [] ?_
          refine W.block (W.loop hc0 (ι := Nat) (fun i => ⟨65, frOf [(1, .ptr 0 []), (3, .data (.bool (goodK s k && goodC (s.calls k) k && goodV s k i))), (4, .data (I k)), (7, .data (I k)), (40, .data (I i))], [.var (eSheet s) []]⟩) (fun i => i ≤ 4) (fun i => 4 - i) 0 (by omega) ?_ ?_)
          · refine Le.cut _ 1 (by omega) ⟨⟨by with_unfolding_all rfl, rfl⟩, ⟨sl_bool ?_, rfl⟩, ⟨by with_unfolding_all rfl, rfl⟩, ⟨by with_unfolding_all rfl, rfl⟩, ⟨by with_unfolding_all rfl, rfl⟩, trivial⟩ (by with_unfolding_all rfl)
            simp only [goodV, Bool.and_true]
          · intro i hi
            refine R [] ?_
            refine W.seq (C (fun h => ?_) (fun h => ?_))
            · have hi : i < 4 := by have := of_decide_eq_true h; omega
              refine W.skip (W.seq (W.block ?_))
              refine R [] ?_
              refine R1 [.data (.bool (within (s.wishes k i) 0 10)), .data (.bool (within (s.promises k i) 0 10))] (ho := by exact ⟨fun _ => ⟨by omega, by omega⟩, fun _ => ⟨by omega, by omega⟩, fun _ => within_spec _ _ _, fun _ => ⟨by omega, by omega⟩, fun _ => ⟨by omega, by omega⟩, fun _ => within_spec _ _ _, trivial⟩) ?_
              refine R1 [] ?_
              refine ⟨i + 1, by omega, by omega, Le.cut _ 1 (by omega) ⟨⟨by with_unfolding_all rfl, rfl⟩, ⟨sl_bool ?_, rfl⟩, ⟨by with_unfolding_all rfl, rfl⟩, ⟨by with_unfolding_all rfl, rfl⟩, ⟨sl_int (wrap_cast hi (by omega)), rfl⟩, trivial⟩ (by with_unfolding_all rfl)⟩
              simp only [bif_and, goodV, goodP, Bool.and_assoc]
            · have hi : i = 4 := by have := of_decide_eq_false h; omega
              subst hi
              refine W.exit ?_
              refine R1 [] ?_
              refine ⟨k + 1, by omega, by omega, Le.cut _ 1 (by omega) ⟨⟨by with_unfolding_all rfl, rfl⟩, ⟨sl_bool ?_, rfl⟩, ⟨sl_int (wrap_cast hk (by omega)), rfl⟩, trivial⟩ (by with_unfolding_all rfl)⟩
              simp only [goodK, Bool.and_assoc]
      · have hc : (s.calls k).is = false := h
        refine R1 [] ?_
        refine W.le hc0 (Le.cut [(1, .ptr 0 []), (3, .data (.bool (goodK s k && goodC (s.calls k) k))), (4, .data (I k)), (7, .data (I k))] 1 (by omega) ⟨⟨by with_unfolding_all rfl, rfl⟩, ⟨sl_bool ?eq, rfl⟩, ⟨by with_unfolding_all rfl, rfl⟩, ⟨by with_unfolding_all rfl, rfl⟩, trivial⟩ (by with_unfolding_all rfl)) ?rest
        case eq => simp only [bif_and, goodC, hc, Bool.false_eq_true, if_false, Bool.and_assoc]; rfl
        case rest =>
          refine R [] ?_
          refine W.block (W.loop hc0 (ι := Nat) (fun i => ⟨65, frOf [(1, .ptr 0 []), (3, .data (.bool (goodK s k && goodC (s.calls k) k && goodV s k i))), (4, .data (I k)), (7, .data (I k)), (40, .data (I i))], [.var (eSheet s) []]⟩) (fun i => i ≤ 4) (fun i => 4 - i) 0 (by omega) ?_ ?_)
          · refine Le.cut _ 1 (by omega) ⟨⟨by with_unfolding_all rfl, rfl⟩, ⟨sl_bool ?_, rfl⟩, ⟨by with_unfolding_all rfl, rfl⟩, ⟨by with_unfolding_all rfl, rfl⟩, ⟨by with_unfolding_all rfl, rfl⟩, trivial⟩ (by with_unfolding_all rfl)
            simp only [goodV, Bool.and_true]
          · intro i hi
            refine R [] ?_
            refine W.seq (C (fun h => ?_) (fun h => ?_))
            · have hi : i < 4 := by have := of_decide_eq_true h; omega
              refine W.skip (W.seq (W.block ?_))
              refine R [] ?_
              refine R1 [.data (.bool (within (s.wishes k i) 0 10)), .data (.bool (within (s.promises k i) 0 10))] (ho := by exact ⟨fun _ => ⟨by omega, by omega⟩, fun _ => ⟨by omega, by omega⟩, fun _ => within_spec _ _ _, fun _ => ⟨by omega, by omega⟩, fun _ => ⟨by omega, by omega⟩, fun _ => within_spec _ _ _, trivial⟩) ?_
              refine R1 [] ?_
              refine ⟨i + 1, by omega, by omega, Le.cut _ 1 (by omega) ⟨⟨by with_unfolding_all rfl, rfl⟩, ⟨sl_bool ?_, rfl⟩, ⟨by with_unfolding_all rfl, rfl⟩, ⟨by with_unfolding_all rfl, rfl⟩, ⟨sl_int (wrap_cast hi (by omega)), rfl⟩, trivial⟩ (by with_unfolding_all rfl)⟩
              simp only [bif_and, goodV, goodP, Bool.and_assoc]
            · have hi : i = 4 := by have := of_decide_eq_false h; omega
              subst hi
              refine W.exit ?_
              refine R1 [] ?_
              refine ⟨k + 1, by omega, by omega, Le.cut _ 1 (by omega) ⟨⟨by with_unfolding_all rfl, rfl⟩, ⟨sl_bool ?_, rfl⟩, ⟨sl_int (wrap_cast hk (by omega)), rfl⟩, trivial⟩ (by with_unfolding_all rfl)⟩
              simp only [goodK, Bool.and_assoc]
    · have hk : k = 6 := by have := of_decide_eq_false h; omega
      subst hk
      refine W.exit ?_
      refine R [] ?_
      refine W.ret (EndB 0 hn0 ?_)
      rfl

end Go.W
