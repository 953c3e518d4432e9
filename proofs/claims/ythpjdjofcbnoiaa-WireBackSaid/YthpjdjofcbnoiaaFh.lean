/-
  The reference's wire, walked.
-/
import Derived.Test.YthpjdjofcbnoiaaFg
import Derived.Test.YthpjdjofcbnoiaaFd
import Derived.Lib.Bytes
import Derived.WideShapes
namespace Go.W
open Go.Proofs

theorem tmod4 (n : Int) : (n % 4 = Int.tmod n 4 ∧ 0 ≤ n) ∨ (Int.tmod n 4 = - ((-n) % 4) ∧ n < 0) := by
  rcases Int.lt_or_le n 0 with h | h
  · right
    refine ⟨?_, h⟩
    have : Int.tmod n 4 = - Int.tmod (-n) 4 := by rw [Int.neg_tmod]; omega
    rw [this, Int.tmod_eq_emod_of_nonneg (by omega)]
  · exact .inl ⟨(Int.tmod_eq_emod_of_nonneg h).symm, h⟩

set_option maxRecDepth 100000 in
theorem low_spec (n : Int) : Pure Try.prog 58 [.data (I n)] (.data (I (n % 4))) := by
  refine spec_of ttok Try.func58 rfl (by kernel_rfl) (by exact Nat.le_of_ble_eq_true rfl) fun hin hie c0 hc0 he => ?_
  have hn0 : c0.es.length ≤ 0 := Nat.le_of_eq (by rw [he]; rfl)
  have h1 := tmod4 n
  have h2 : IntKind.i64.wrap (Int.tmod n 4) = Int.tmod n 4 := by
    refine i64_wrap ?_ ?_ <;> omega
  have h3 : IntKind.i64.wrap (Int.tmod n 4 + 4) = Int.tmod n 4 + 4 := by
    refine i64_wrap ?_ ?_ <;> omega
  have h4 : Int.tmod (Int.tmod n 4 + 4) 4 = n % 4 := by
    rw [Int.tmod_eq_emod_of_nonneg (by omega)]; omega
  refine R [] ?_
  refine R [] (ho := by rw [h3, h4]; exact ⟨by omega, h2, by omega, i64_wrap (by omega) (by omega), trivial⟩) ?_
  refine W.ret (EndI 0 hn0 ?_)
  rw [h3, h4]

set_option maxRecDepth 100000 in
theorem leaderOf_spec (h r : Int) : Pure Try.prog 32 [.data (I h), .data (I r)] (.data (I (leader h r))) := by
  refine spec_of ttok Try.func32 rfl (by kernel_rfl) (by exact Nat.le_of_ble_eq_true rfl) fun hin hie c0 hc0 he => ?_
  have hn0 : c0.es.length ≤ 0 := Nat.le_of_eq (by rw [he]; rfl)
  refine R [] ?_
  refine R [] ?_
  refine R [.data (I (h % 4)), .data (I (r % 4)), .data (I (IntKind.i64.wrap (h % 4 + r % 4) % 4))] (ho := by exact ⟨low_spec h, low_spec r, low_spec _, trivial⟩) ?_
  refine W.ret (EndI 0 hn0 ?_)
  rw [i64_wrap (by omega) (by omega)]; rfl

def least (w : Word) : Int := if w.kind == 1 then 1 else 0
def refErr (w : Word) : Int :=
  if !within w.kind 1 3 then 3
  else if !within w.frm 0 3 || !within w.height 0 3 || !within w.round 0 5 || !within w.value (least w) 9 then 2
  else if w.kind == 1 && !within w.valid (-1) (w.round - 1) then 2
  else if decide (1 < w.kind) && !(w.valid == 0) then 1 else 0

theorem refErr_eq (w : Word) : refErr w = goodW w := by
  have b1 : (!within w.kind 1 3) = badKind w := by
    rw [Bool.eq_iff_iff]
    simp only [within, badKind, Bool.not_eq_true', Bool.and_eq_false_iff, Bool.or_eq_true, decide_eq_true_eq, decide_eq_false_iff_not]
    omega
  unfold refErr goodW
  rw [b1]
  cases hk : badKind w with
  | true => rfl
  | false =>
    have b2 : (!within w.frm 0 3 || !within w.height 0 3 || !within w.round 0 5 || !within w.value (least w) 9) = (badPlace w || badValue w) := by
      rw [Bool.eq_iff_iff]
      unfold least
      simp only [badKind, Bool.or_eq_false_iff, decide_eq_false_iff_not] at hk
      simp only [within, badPlace, badValue, Bool.not_eq_true', Bool.and_eq_false_iff, Bool.or_eq_true, Bool.and_eq_true, decide_eq_true_eq, decide_eq_false_iff_not, beq_iff_eq]
      split <;> omega
    rw [b2]
    simp only [Bool.false_eq_true, if_false]
    cases hp : badPlace w with
    | true => rfl
    | false =>
      cases hv : badValue w with
      | true => rfl
      | false =>
        simp only [Bool.or_false, Bool.false_eq_true, if_false]
        have b3 : (w.kind == 1 && !within w.valid (-1) (w.round - 1)) = badValid w := by
          rw [Bool.eq_iff_iff]
          simp only [within, badValid, Bool.not_eq_true', Bool.and_eq_false_iff, Bool.or_eq_true, Bool.and_eq_true, decide_eq_true_eq, decide_eq_false_iff_not, beq_iff_eq]
          omega
        rw [b3]
        cases badValid w with
        | true => rfl
        | false =>
          have b4 : (decide (1 < w.kind) && !(w.valid == 0)) = badForm w := by
            rw [Bool.eq_iff_iff]
            simp only [badKind, Bool.or_eq_false_iff, decide_eq_false_iff_not] at hk
            simp only [badForm, Bool.not_eq_true', Bool.and_eq_true, decide_eq_true_eq, beq_eq_false_iff_ne]
            omega
          rw [b4]

set_option maxRecDepth 100000 in
theorem wordError_spec (w : Word) : Pure Try.prog 31 [.data (eWord w)] (.data (I (goodW w))) := by
  refine spec_of ttok Try.func31 rfl (by kernel_rfl) (by exact Nat.le_of_ble_eq_true rfl) fun hin hie c0 hc0 he => ?_
  have hn0 : c0.es.length ≤ 0 := Nat.le_of_eq (by rw [he]; rfl)
  rw [← refErr_eq]
  refine R [] ?_
  refine W.seq (R [.data (.bool (within w.kind 1 3))] (ho := by exact ⟨within_spec _ _ _, trivial⟩) ?_)
  refine C (fun h => ?_) (fun h => ?_)
  · refine R [] ?_
    refine W.ret (EndI 0 hn0 ?_)
    have h : (!within w.kind 1 3) = true := h
    simp only [refErr, h, if_true]
  have h1 : (!within w.kind 1 3) = false := h
  clear h
  refine W.skip ?_
  refine R [] ?_
  refine W.seq (R [] ?_)
  refine C (fun h => ?_) (fun h => ?_)
  rotate_left
  refine W.skip (W.le hc0 (Le.cut [(1, .ptr 0 []), (3, .data (I (least w)))] 1 (by omega) ⟨⟨by with_unfolding_all rfl, rfl⟩, ⟨sl_int ?ea, rfl⟩, trivial⟩ (by with_unfolding_all rfl)) ?_)
  case ea => simp only [least, show (w.kind == 1) = false from h, Bool.false_eq_true, if_false]
  rotate_left
  refine R1 [] ?_
  refine (W.le hc0 (Le.cut [(1, .ptr 0 []), (3, .data (I (least w)))] 1 (by omega) ⟨⟨by with_unfolding_all rfl, rfl⟩, ⟨sl_int ?eb, rfl⟩, trivial⟩ (by with_unfolding_all rfl)) ?_)
  case eb => simp only [least, show (w.kind == 1) = true from h, if_true]
  all_goals
    refine W.seq (R [.data (.bool (within w.frm 0 3)), .data (.bool (within w.height 0 3)), .data (.bool (within w.round 0 5)), .data (.bool (within w.value (least w) 9))] (ho := by exact ⟨within_spec _ _ _, fun _ => within_spec _ _ _, fun _ => within_spec _ _ _, fun _ => within_spec _ _ _, trivial⟩) ?_)
    refine C (fun h => ?_) (fun h => ?_)
    · have h2 : (!within w.frm 0 3 || !within w.height 0 3 || !within w.round 0 5 || !within w.value (least w) 9) = true := by simpa only [bif_or] using h
      refine R [] ?_
      refine W.ret (EndI 0 hn0 ?_)
      simp only [refErr, h1, h2, if_true, Bool.false_eq_true, if_false]
    have h2 : (!within w.frm 0 3 || !within w.height 0 3 || !within w.round 0 5 || !within w.value (least w) 9) = false := by simpa only [bif_or] using h
    clear h
    have hr : IntKind.i64.wrap (w.round - 1) = w.round - 1 := by
      simp only [within, Bool.or_eq_false_iff, Bool.not_eq_false', Bool.and_eq_true, decide_eq_true_eq] at h2
      exact i64_wrap (by omega) (by omega)
    refine W.skip ?_
    refine W.seq (R [.data (.bool (within w.valid (-1) (IntKind.i64.wrap (w.round - 1))))] (ho := by exact ⟨fun _ => within_spec _ _ _, trivial⟩) ?_)
    refine C (fun h => ?_) (fun h => ?_)
    · have h3 : (w.kind == 1 && !within w.valid (-1) (w.round - 1)) = true := by rw [hr] at h; simpa only [bif_and] using h
      refine R [] ?_
      refine W.ret (EndI 0 hn0 ?_)
      simp only [refErr, h1, h2, h3, if_true, Bool.false_eq_true, if_false]
    have h3 : (w.kind == 1 && !within w.valid (-1) (w.round - 1)) = false := by rw [hr] at h; simpa only [bif_and] using h
    clear h
    refine W.skip ?_
    refine W.seq (R [] ?_)
    refine C (fun h => ?_) (fun h => ?_)
    · have h4 : (decide (1 < w.kind) && !(w.valid == 0)) = true := by simpa only [bif_and, gt_iff_lt] using h
      refine R [] ?_
      refine W.ret (EndI 0 hn0 ?_)
      simp only [refErr, h1, h2, h3, h4, if_true, Bool.false_eq_true, if_false]
    have h4 : (decide (1 < w.kind) && !(w.valid == 0)) = false := by simpa only [bif_and, gt_iff_lt] using h
    refine W.skip ?_
    refine R [] ?_
    refine W.ret (EndI 0 hn0 ?_)
    simp only [refErr, h1, h2, h3, h4, Bool.false_eq_true, if_false]

def signS (n : Int) : ByteArray := if n < 0 then ⟨#[45]⟩ else ⟨#[UInt8.ofNat (48 + n).toNat]⟩

theorem strOfNums_one (x : Int) : strOfNums [x] = ⟨#[UInt8.ofNat x.toNat]⟩ := rfl

set_option maxRecDepth 100000 in
theorem sign_spec (n : Int) (hn : -1 ≤ n ∧ n ≤ 9) : Pure Try.prog 56 [.data (I n)] (.data (.str (signS n))) := by
  refine spec_of ttok Try.func56 rfl (by kernel_rfl) (by exact Nat.le_of_ble_eq_true rfl) fun hin hie c0 hc0 he => ?_
  have hn0 : c0.es.length ≤ 0 := Nat.le_of_eq (by rw [he]; rfl)
  refine R [] ?_
  refine W.seq (R [] ?_)
  refine C (fun h => ?_) (fun h => ?_)
  · have h : n < 0 := of_decide_eq_true h
    refine R [] ?_
    refine W.ret (End 0 hn0 ⟨?_, rfl⟩)
    simp only [signS, if_pos h]; rfl
  have h : ¬ n < 0 := of_decide_eq_false h
  refine W.skip ?_
  refine R [] (ho := by with_unfolding_all exact ⟨fun d hd => ⟨_, List.mem_singleton.1 hd⟩, trivial⟩) ?_
  refine W.ret (End 0 hn0 ⟨?_, rfl⟩)
  simp only [signS, if_neg h]
  have : strOfD [D.int .u8 (IntKind.u8.wrap (IntKind.i64.wrap (48 + n)))] = ⟨#[UInt8.ofNat (48 + n).toNat]⟩ := by
    rw [i64_wrap (by omega) (by omega), u8_wrap' (by omega) (by omega)]
    exact strOfNums_one _
  exact congrArg (fun s => AV.data (D.str s)) this

theorem signS_size (n : Int) : (signS n).size = 1 := by unfold signS; split <;> rfl

theorem letter_eq {n : Int} (h : -1 ≤ n ∧ n ≤ 9) : letterB n = if n < 0 then 45 else 48 + n := by
  have : n = -1 ∨ n = 0 ∨ n = 1 ∨ n = 2 ∨ n = 3 ∨ n = 4 ∨ n = 5 ∨ n = 6 ∨ n = 7 ∨ n = 8 ∨ n = 9 := by omega
  rcases this with h | h | h | h | h | h | h | h | h | h | h <;> subst h <;> rfl

theorem letter_sign {n : Int} (h : -1 ≤ n ∧ n ≤ 9) : (signS n).data.toList = [UInt8.ofNat (letterB n).toNat] := by
  rw [letter_eq h]
  unfold signS
  split <;> rfl

theorem append_data (a b : ByteArray) : (a ++ b).data.toList = a.data.toList ++ b.data.toList := by simp

def encR (w : Word) : ByteArray := signS w.kind ++ signS w.frm ++ signS w.height ++ signS w.round ++ signS w.value ++ signS w.valid

theorem encR_eq {w : Word} (h : goodW w = 0) : encR w = encS w := by
  have hr : ∀ k n, k < 6 → wordAt w k = n → -1 ≤ n ∧ n ≤ 9 := fun k n hk he => he ▸ good_range h k hk
  apply Go.WideShapes.bytes_inj
  simp only [encR, append_data, encS, if_pos h]
  rw [letter_sign (hr 0 w.kind (by omega) rfl), letter_sign (hr 1 w.frm (by omega) rfl), letter_sign (hr 2 w.height (by omega) rfl), letter_sign (hr 3 w.round (by omega) rfl), letter_sign (hr 4 w.value (by omega) rfl), letter_sign (hr 5 w.valid (by omega) rfl)]
  rfl

set_option maxRecDepth 100000 in
theorem encodeWord_spec (w : Word) : Pure Try.prog 27 [.data (eWord w)] (.tuple [.data (.str (encS w)), .data (I (goodW w))]) := by
  refine spec_of ttok Try.func27 rfl (by kernel_rfl) (by exact Nat.le_of_ble_eq_true rfl) fun hin hie c0 hc0 he => ?_
  have hn0 : c0.es.length ≤ 0 := Nat.le_of_eq (by rw [he]; rfl)
  refine R [] ?_
  refine W.seq (R [.data (I (goodW w))] (ho := by exact ⟨wordError_spec w, trivial⟩) ?_)
  refine R [] ?_
  refine C (fun h => ?_) (fun h => ?_)
  · have hg : goodW w ≠ 0 := by simpa using h
    refine R [] ?_
    refine W.ret (End 0 hn0 ⟨?_, rfl⟩)
    simp only [encS, if_neg hg]; rfl
  have hg : goodW w = 0 := by simpa using h
  have hr := good_range hg
  refine W.skip ?_
  refine RD [.data (.str (signS w.kind)), .data (.str (signS w.frm)), .data (.str (signS w.height)), .data (.str (signS w.round)), .data (.str (signS w.value)), .data (.str (signS w.valid))]
    (ho := by exact ⟨sign_spec _ (hr 0 (by omega)), sign_spec _ (hr 1 (by omega)), by simp [signS_size], sign_spec _ (hr 2 (by omega)), by simp [signS_size], sign_spec _ (hr 3 (by omega)), by simp [signS_size], sign_spec _ (hr 4 (by omega)), by simp [signS_size], sign_spec _ (hr 5 (by omega)), by simp [signS_size], trivial⟩) ?_
  refine W.ret (End 0 hn0 ⟨?_, rfl⟩)
  rw [← encR_eq hg, hg]; rfl

set_option maxRecDepth 100000 in
theorem num_spec (c : Int) (hc : 0 ≤ c ∧ c < 256) : Pure Try.prog 57 [.data (.int .u8 c)] (.data (I (sgn c))) := by
  refine spec_of ttok Try.func57 rfl (by kernel_rfl) (by exact Nat.le_of_ble_eq_true rfl) fun hin hie c0 hc0 he => ?_
  have hn0 : c0.es.length ≤ 0 := Nat.le_of_eq (by rw [he]; rfl)
  refine R [] ?_
  refine W.seq (R [] ?_)
  refine C (fun h => ?_) (fun h => ?_)
  · have h : c = 45 := by simpa using h
    refine R [] ?_
    refine W.ret (EndI 0 hn0 ?_)
    simp [sgn, h]
  have h : c ≠ 45 := by simpa using h
  refine W.skip ?_
  refine R [] ?_
  refine W.ret (EndI 0 hn0 ?_)
  rw [i64_wrap (n := c) (by omega) (by omega), i64_wrap (by omega) (by omega)]
  simp [sgn, h]

theorem six_list {s : ByteArray} (h : s.size = 6) : s.data.toList = [s.data.getD 0 0, s.data.getD 1 0, s.data.getD 2 0, s.data.getD 3 0, s.data.getD 4 0, s.data.getD 5 0] := by
  have hl : s.data.toList.length = 6 := h
  apply List.ext_getElem
  · simp [hl]
  · intro i h1 h2
    have hi : i < s.data.size := by simpa using h1
    match i, h2 with
    | 0, _ => simp [Array.getElem?_eq_getElem hi]
    | 1, _ => simp [Array.getElem?_eq_getElem hi]
    | 2, _ => simp [Array.getElem?_eq_getElem hi]
    | 3, _ => simp [Array.getElem?_eq_getElem hi]
    | 4, _ => simp [Array.getElem?_eq_getElem hi]
    | 5, _ => simp [Array.getElem?_eq_getElem hi]

theorem enc_data {w : Word} (h : goodW w = 0) : (encS w).data.toList = [UInt8.ofNat (letterB w.kind).toNat, UInt8.ofNat (letterB w.frm).toNat, UInt8.ofNat (letterB w.height).toNat, UInt8.ofNat (letterB w.round).toNat, UInt8.ofNat (letterB w.value).toNat, UInt8.ofNat (letterB w.valid).toNat] := by
  simp only [encS, if_pos h]; rfl

theorem letter_back {b : UInt8} (h : okc (b.toNat : Int) = true) : UInt8.ofNat (letterB (sgn (b.toNat : Int))).toNat = b := by
  have hb := b.toNat_lt
  simp only [okc, Bool.or_eq_true, beq_iff_eq, Bool.and_eq_true, decide_eq_true_eq] at h
  have : (letterB (sgn (b.toNat : Int))).toNat = b.toNat := by
    unfold sgn
    split
    · rename_i h45
      rw [letter_eq (by omega)]
      simp; omega
    · rw [letter_eq (by omega), if_neg (by omega)]
      omega
  rw [this]
  simp

theorem letter_ok {b : UInt8} (hr : -1 ≤ sgn (b.toNat : Int) ∧ sgn (b.toNat : Int) ≤ 9) (h : UInt8.ofNat (letterB (sgn (b.toNat : Int))).toNat = b) : okc (b.toNat : Int) = true := by
  have hb := b.toNat_lt
  simp only [okc, Bool.or_eq_true, beq_iff_eq, Bool.and_eq_true, decide_eq_true_eq]
  apply Classical.byContradiction
  intro hn
  have h47 : b.toNat = 47 := by
    unfold sgn at hr
    split at hr <;> omega
  have hs : sgn (b.toNat : Int) = -1 := by unfold sgn; rw [if_neg (by omega)]; omega
  rw [hs, letter_eq (by omega)] at h
  have := congrArg UInt8.toNat h
  simp at this
  omega

/-- It is read if and only if the word's text is the text. -/
theorem dec_iff {s : ByteArray} (hs : s.size = 6) : decOK s = (decide (goodW (wordS s) = 0) && ((encS (wordS s)).toList == s.toList)) := by
  rw [Go.Lib.toList_data, Go.Lib.toList_data, Bool.eq_iff_iff]
  simp only [decOK, hs, decide_true, Bool.true_and, Bool.and_eq_true, decide_eq_true_eq, beq_iff_eq]
  constructor
  · rintro ⟨hok, hg⟩
    refine ⟨hg, ?_⟩
    rw [enc_data hg, six_list hs]
    simp only [okK, Bool.and_eq_true, Bool.true_and, byteAt] at hok
    obtain ⟨⟨⟨⟨⟨h0, h1⟩, h2⟩, h3⟩, h4⟩, h5⟩ := hok
    simp only [wordS, sg, byteAt]
    rw [letter_back h0, letter_back h1, letter_back h2, letter_back h3, letter_back h4, letter_back h5]
  · rintro ⟨hg, he⟩
    refine ⟨?_, hg⟩
    rw [enc_data hg, six_list hs] at he
    have hr := good_range hg
    simp only [List.cons.injEq, and_true] at he
    obtain ⟨e0, e1, e2, e3, e4, e5⟩ := he
    simp only [okK, Bool.and_eq_true, Bool.true_and, byteAt]
    exact ⟨⟨⟨⟨⟨letter_ok (hr 0 (by omega)) e0, letter_ok (hr 1 (by omega)) e1⟩, letter_ok (hr 2 (by omega)) e2⟩, letter_ok (hr 3 (by omega)) e3⟩, letter_ok (hr 4 (by omega)) e4⟩, letter_ok (hr 5 (by omega)) e5⟩

set_option maxRecDepth 100000 in
theorem decodeWord_spec (s : ByteArray) : Pure Try.prog 29 [.data (.str s)] (.tuple [.data (eWord (decW s)), .data (I (decE s))]) := by
  refine spec_of ttok Try.func29 rfl (by kernel_rfl) (by exact Nat.le_of_ble_eq_true rfl) fun hin hie c0 hc0 he => ?_
  have hn0 : c0.es.length ≤ 0 := Nat.le_of_eq (by rw [he]; rfl)
  have bad : decOK s = false → AV.tuple [.data (eWord .zero), .data (I 1)] = .tuple [.data (eWord (decW s)), .data (I (decE s))] := fun h => by
    simp only [decW, decE, h, Bool.false_eq_true, if_false]
  refine R [] ?_
  refine W.seq (R [] ?_)
  refine C (fun h => ?_) (fun h => ?_)
  rotate_left
  · have hs : decOK s = false := by
      have : ¬ s.size = 6 := by
        intro h6
        simp [h6] at h
      simp [decOK, this]
    refine W.skip ?_
    refine R [] (ho := by with_unfolding_all exact ⟨sameWW .zero .zero, trivial⟩) ?_
    refine W.ret (End 0 hn0 ⟨?_, rfl⟩)
    exact bad hs
  have hs : s.size = 6 := by
    simp only [beq_iff_eq] at h
    exact Int.ofNat.inj h
  refine R [] ?_
  have hb := byteAt_bd s
  refine RD [.data (I (sg s 0)), .data (I (sg s 1)), .data (I (sg s 2)), .data (I (sg s 3)), .data (I (sg s 4)), .data (I (sg s 5))] (ho := ?ob) ?_
  case ob => exact ⟨⟨by omega, by omega⟩, num_spec _ (hb 0), ⟨by omega, by omega⟩, num_spec _ (hb 1), ⟨by omega, by omega⟩, num_spec _ (hb 2), ⟨by omega, by omega⟩, num_spec _ (hb 3), ⟨by omega, by omega⟩, num_spec _ (hb 4), ⟨by omega, by omega⟩, num_spec _ (hb 5),
    by with_unfolding_all exact sameW (w := wordS s) rfl rfl rfl rfl rfl rfl (fun _ => rfl), trivial⟩
  refine R [.tuple [.data (.str (encS (wordS s))), .data (I (goodW (wordS s)))]] (ho := ?ob) ?_
  case ob =>
    refine ⟨pure1 (encodeWord_spec (wordS s)) ?_ rfl, trivial⟩
    with_unfolding_all exact eWord_of rfl rfl rfl rfl rfl rfl (fun _ => rfl)
  refine R [] ?_
  refine C (fun h => ?_) (fun h => ?_)
  · have hok : decOK s = true := by
      rw [dec_iff hs]
      simpa [bif_and] using h
    refine R [] (ho := by with_unfolding_all exact ⟨sameW (w := wordS s) rfl rfl rfl rfl rfl rfl (fun _ => rfl), trivial⟩) ?_
    refine W.ret (End 0 hn0 ⟨?_, rfl⟩)
    simp only [decW, decE, hok, if_true]
    with_unfolding_all exact congrArg (fun a => AV.tuple [a, AV.data (I 0)]) (eWord_of rfl rfl rfl rfl rfl rfl (fun _ => rfl))
  · have hok : decOK s = false := by
      rw [dec_iff hs]
      simpa [bif_and] using h
    refine W.skip ?_
    refine R [] (ho := by with_unfolding_all exact ⟨sameWW .zero .zero, trivial⟩) ?_
    refine W.ret (End 0 hn0 ⟨?_, rfl⟩)
    exact bad hok

end Go.W
