/-
  The laws of the wire.
-/
import Derived.Test.YthpjdjofcbnoiaaFh
import Derived.Test.YthpjdjofcbnoiaaGe
namespace Go.W
open Go.Proofs

theorem eqD_word (a : Word) : eqD (eWord a) (eWord a) = true := by
  refine allTo_spec.2 fun i hi => ?_
  match i, hi with
  | 0, _ => exact beq_self_eq_true _
  | 1, _ => exact beq_self_eq_true _
  | 2, _ => exact beq_self_eq_true _
  | 3, _ => exact beq_self_eq_true _
  | 4, _ => exact beq_self_eq_true _
  | 5, _ => exact beq_self_eq_true _

set_option maxRecDepth 100000 in
theorem wires_law : Pure Try.prog 33 [] (.data (.bool true)) := by
  refine spec_of ttok Try.func33 rfl (by kernel_rfl) (by exact Nat.le_of_ble_eq_true rfl) fun hin hie c0 hc0 he => ?_
  have hn0 : c0.es.length ≤ 0 := Nat.le_of_eq (by rw [he]; rfl)
  refine R [] ?_
  refine R [.tuple [.data (.str ⟨#[49, 49, 49, 48, 55, 45]⟩), .data (I 0)]] (ho := ?ob) ?_
  case ob =>
    refine ⟨pure1 (encode_spec litW) ?_ (by rw [litW_good, litW_text]), trivial⟩
    with_unfolding_all exact eWord_of rfl rfl rfl rfl rfl rfl (fun _ => rfl)
  refine R [.data (I 3)] (ho := ?ob) ?_
  case ob => exact ⟨fun _ => leader_spec 1 2, trivial⟩
  refine W.ret (EndB 0 hn0 ?_)
  simp

set_option maxRecDepth 100000 in
theorem wireTells_spec (w : Word) (s : ByteArray) (h r : Int) : Pure Try.prog 7 [.data (eWord w), .data (.str s), .data (I h), .data (I r)] (.data (.bool true)) := by
  refine spec_of ttok Try.func7 rfl (by kernel_rfl) (by exact Nat.le_of_ble_eq_true rfl) fun hin hie c0 hc0 he => ?_
  have hn0 : c0.es.length ≤ 0 := Nat.le_of_eq (by rw [he]; rfl)
  refine R [] ?_
  refine R [.tuple [.data (.str (encS w)), .data (I (goodW w))]] (ho := by exact ⟨encode_spec w, trivial⟩) ?_
  refine R [.tuple [.data (.str (encS w)), .data (I (goodW w))]] (ho := by exact ⟨encodeWord_spec w, trivial⟩) ?_
  refine R [.tuple [.data (eWord (decW s)), .data (I (decE s))]] (ho := by exact ⟨decode_spec s, sameWW .zero _, trivial⟩) ?_
  refine R [.tuple [.data (eWord (decW s)), .data (I (decE s))]] (ho := by exact ⟨decodeWord_spec s, sameWW .zero _, trivial⟩) ?_
  refine RD [.data (I (goodW w)), .data (I (goodW w)), .data (I (leader h r)), .data (I (leader h r)), .data (.bool true)]
    (ho := by exact ⟨fun _ => good_spec w, fun _ => wordError_spec w, fun _ => leader_spec h r, fun _ => leaderOf_spec h r, fun _ => wires_law, trivial⟩) ?_
  refine W.ret (EndB 0 hn0 ?_)
  have hW := eqD_word (decW s)
  unfold eWord at hW
  simp only [bif_and, beq_self_eq_true, Bool.and_self, hW]

theorem dec_enc {w : Word} (hg : goodW w = 0) : decW (encS w) = w ∧ decE (encS w) = 0 := by
  have hr : ∀ k n, k < 6 → wordAt w k = n → -1 ≤ n ∧ n ≤ 9 := fun k n hk he => he ▸ good_range hg k hk
  have hd := enc_data hg
  have hsz : (encS w).size = 6 := by
    have := congrArg List.length hd
    simpa using this
  have hb : ∀ k n, (encS w).data.toList[k]? = some (UInt8.ofNat (letterB n).toNat) → -1 ≤ n ∧ n ≤ 9 → sg (encS w) k = n := by
    intro k n hk hn
    have h1 : (encS w).data.getD k 0 = UInt8.ofNat (letterB n).toNat := by
      rw [Array.getElem?_toList] at hk
      simp [hk]
    unfold sg byteAt
    rw [h1, letter_eq hn]
    unfold sgn
    split
    · rw [show (UInt8.ofNat (45 : Int).toNat).toNat = 45 from rfl]
      simp; omega
    · have : (UInt8.ofNat (48 + n).toNat).toNat = (48 + n).toNat := by
        simp; omega
      rw [this, if_neg (by omega)]
      omega
  have hw : wordS (encS w) = w := by
    unfold wordS
    rw [hb 0 w.kind (by rw [hd]; rfl) (hr 0 _ (by omega) rfl), hb 1 w.frm (by rw [hd]; rfl) (hr 1 _ (by omega) rfl), hb 2 w.height (by rw [hd]; rfl) (hr 2 _ (by omega) rfl), hb 3 w.round (by rw [hd]; rfl) (hr 3 _ (by omega) rfl),
      hb 4 w.value (by rw [hd]; rfl) (hr 4 _ (by omega) rfl), hb 5 w.valid (by rw [hd]; rfl) (hr 5 _ (by omega) rfl)]
  have hok : decOK (encS w) = true := by
    rw [dec_iff hsz, hw, hg]
    simp
  simp [decW, decE, hok, hw]

theorem enc_dec {s : ByteArray} (h : decE s = 0) : goodW (decW s) = 0 ∧ encS (decW s) = s := by
  unfold decE at h
  split at h
  case isFalse => omega
  rename_i hok
  have hs : s.size = 6 := by
    simp only [decOK, Bool.and_eq_true, decide_eq_true_eq] at hok
    exact hok.1.1
  have := dec_iff hs
  rw [hok] at this
  simp only [decW, hok, if_true]
  have h2 := this.symm
  rw [Go.Lib.toList_data, Go.Lib.toList_data] at h2
  simp only [Bool.and_eq_true, decide_eq_true_eq, beq_iff_eq] at h2
  exact ⟨h2.1, Go.WideShapes.bytes_inj h2.2⟩

set_option maxRecDepth 100000 in
theorem wireBack_spec (w : Word) (s : ByteArray) : Pure Try.prog 8 [.data (eWord w), .data (.str s)] (.data (.bool true)) := by
  refine spec_of ttok Try.func8 rfl (by kernel_rfl) (by exact Nat.le_of_ble_eq_true rfl) fun hin hie c0 hc0 he => ?_
  have hn0 : c0.es.length ≤ 0 := Nat.le_of_eq (by rw [he]; rfl)
  refine R [] ?_
  refine R [.tuple [.data (.str (encS w)), .data (I (goodW w))]] (ho := by exact ⟨encode_spec w, trivial⟩) ?_
  refine W.seq (R [.tuple [.data (eWord (decW (encS w))), .data (I (decE (encS w)))]] (ho := by exact ⟨decode_spec _, sameWW .zero _, trivial⟩) ?_)
  refine R [] ?_
  refine C (fun h => ?_) (fun h => ?_)
  · exfalso
    simp only [bif_and, bif_or, Bool.and_eq_true, beq_iff_eq] at h
    obtain ⟨hg, h⟩ := h
    obtain ⟨e1, e2⟩ := dec_enc hg
    rw [e1, e2] at h
    have hW := eqD_word w
    unfold eWord at hW
    simp [hW] at h
  refine W.skip ?_
  refine R [.tuple [.data (eWord (decW s)), .data (I (decE s))]] (ho := by exact ⟨decode_spec _, sameWW .zero _, trivial⟩) ?_
  refine R [.tuple [.data (.str (encS (decW s))), .data (I (goodW (decW s)))]] (ho := by exact ⟨encode_spec _, trivial⟩) ?_
  refine R [.data (.bool true)] (ho := by exact ⟨fun _ => wires_keep, trivial⟩) ?_
  refine W.ret (EndB 0 hn0 ?_)
  simp only [bif_and, bif_or, Bool.and_true]
  by_cases hd : decE s = 0
  · obtain ⟨h1, h2⟩ := enc_dec hd
    simp [h1, h2]
  · simp [hd]

end Go.W
