/-
  The laws of good nodes (package yokefellowkeep).
-/
import Derived.Test.YthpjdjofcbnoiabGi
namespace Go.W
open Go.Proofs

theorem cptr_words (l : List Word) {k : Nat} (h : k < l.length) : AV.cptr ((l.map eWord).getD k default) = .cptr (eWord (l.getD k Word.zero)) := by
  simp [List.getElem?_eq_getElem h]

theorem afterT_goes {s : Node} {who kind value : Int} {w : Word} (h : (afterT s who kind value w).err = 0) : beginE s who = 0 ∧ Goes s who (afterT s who kind value w) := by
  unfold afterT at h ⊢
  split
  · rename_i hk; rw [if_pos hk] at h; have := hearT_goes h; exact ⟨this.1, this.2.2.1⟩
  · rename_i hk
    rw [if_neg hk] at h
    split
    · rename_i h1; rw [if_pos h1] at h; have := submitT_goes h; exact ⟨this.1, this.2.2.2.2.1⟩
    · rename_i h1; rw [if_neg h1] at h; exact timeT_goes h
theorem afterT_err {s : Node} {who kind value : Int} {w : Word} (h : (afterT s who kind value w).err ≠ 0) : (afterT s who kind value w).s = s ∧ (afterT s who kind value w).out = [] := by
  unfold afterT at h ⊢
  split
  · rename_i hk; rw [if_pos hk] at h; exact hearT_err h
  · rename_i hk
    rw [if_neg hk] at h
    split
    · rename_i h1; rw [if_pos h1] at h; exact submitT_err h
    · rename_i h1; rw [if_neg h1] at h; exact timeT_err h

theorem afterT_len (s : Node) (who kind value : Int) (w : Word) : (afterT s who kind value w).out.length ≤ 2000 := by
  unfold afterT
  split
  · exact hearT_len _ _ _
  · split
    · exact submitT_len _ _ _
    · exact timeT_len _ _
theorem goes_words {s : Node} {who : Int} {t : Turn} (h : Goes s who t) {k : Nat} (hk : k < t.out.length) : (t.out.getD k Word.zero).frm = who ∧ PlaceR s (t.out.getD k Word.zero).height (t.out.getD k Word.zero).round ∧ (t.out.getD k Word.zero).height ≤ t.s.height := by
  obtain ⟨l, e, hl⟩ := h.adv.out
  have e : t.out = l := by simpa using e
  have : t.out.getD k Word.zero = t.out[k] := by simp [List.getElem?_eq_getElem hk]
  rw [this]
  exact hl _ (by rw [← e]; exact List.getElem_mem hk)

theorem place_bif {a b : Node} (h : PlaceLe a b) : (bif decide (a.height < b.height) then true else bif b.height == a.height then bif decide (a.round < b.round) then true else bif b.round == a.round then decide (a.step ≤ b.step) else false else false) = true := by
  rw [bif_or, bif_and, bif_or, bif_and]
  simp only [Bool.or_eq_true, Bool.and_eq_true, decide_eq_true_eq, beq_iff_eq]
  unfold PlaceLe at h
  omega

set_option maxHeartbeats 8000000 in
set_option maxRecDepth 100000 in
theorem nodeGood_spec (s : Node) (who kind value : Int) (w : Word) : Pure Try.prog 6 [.data (eNode s), .data (I who), .data (I kind), .data (I value), .data (eWord w)] (.data (.bool true)) := by
  refine spec_of ttok Try.func6 rfl (by kernel_rfl) (by exact Nat.le_of_ble_eq_true rfl) fun hin hie c0 hc0 he => ?_
  have hn0 : c0.es.length ≤ 0 := Nat.le_of_eq (by rw [he]; rfl)
  have hs := after_spec s who kind value w
  have hgo := afterT_goes (s := s) (who := who) (kind := kind) (value := value) (w := w)
  have her := afterT_err (s := s) (who := who) (kind := kind) (value := value) (w := w)
  have hln := afterT_len s who kind value w
  generalize afterT s who kind value w = t at hs hgo her hln
  obtain ⟨x, l, e⟩ := t
  refine R [] ?_
  refine R [.tuple [.data (eNode x), .data (eWords l), .data (I e)]] (ho := by exact ⟨hs, sameNz _ _, trivial⟩) ?_
  refine W.seq (R [] ?_)
  refine C (fun h => ?_) (fun h => ?_)
  · have he : e ≠ 0 := by
      have h : (!(e == 0)) = true := h
      simpa using h
    have h2 := her he
    simp only at h2
    obtain ⟨rfl, rfl⟩ := h2
    refine R [.data (.bool true), .data (.bool true)] (ho := by exact ⟨same_keep _, fun _ => nodes_keep, trivial⟩) ?_
    exact W.ret (EndB 0 hn0 rfl)
  have he : e = 0 := by
    have h : (!(e == 0)) = false := h
    simpa using h
  subst he
  clear h
  obtain ⟨_, hg⟩ := hgo rfl
  simp only at hln
  refine W.skip ?_
  refine W.seq (R [] ?_)
  refine W.block (W.loop hc0 (ι := Nat) (fun k => ⟨139, frOf [(1, .data (I who)), (5, .ptr 0 []), (11, .ptr 2 []), (12, .data (eWords l)), (40, .data (I k))], [.var (eNode s) [], .var (eWord w) [], .var (eNode x) []]⟩) (fun k => k ≤ 4) (fun k => 4 - k) 0 (by omega) ?_ ?_)
  · exact Le.cut _ 3 (by omega) ⟨⟨by with_unfolding_all rfl, rfl⟩, ⟨by with_unfolding_all rfl, rfl⟩, ⟨by with_unfolding_all rfl, rfl⟩, ⟨by with_unfolding_all rfl, rfl⟩, ⟨by with_unfolding_all rfl, rfl⟩, trivial⟩ (by with_unfolding_all rfl)
  · intro k hk
    refine R [] ?_
    refine W.seq (C (fun h => ?_) (fun h => ?_))
    · have hk : k < 4 := by have := of_decide_eq_true h; omega
      refine W.skip (W.seq (W.block ?_))
      refine R [] ?_
      refine RD [] (ho := by exact ⟨⟨by omega, by omega⟩, fun _ => ⟨by omega, by omega⟩, fun _ => ⟨by omega, by omega⟩, trivial⟩) ?_
      refine C (fun h => ?_) (fun h => ?_)
      · exfalso
        have h : (bif !(s.settled k == 0) then !(s.settled k == x.settled k) else false) = true := h
        rw [bif_and] at h
        simp only [Bool.and_eq_true, Bool.not_eq_true', beq_eq_false_iff_ne] at h
        exact h.2 (hg.adv.settled k hk h.1).symm
      refine W.skip ?_
      refine R1 [] ?_
      exact ⟨k + 1, by omega, by omega, Le.cut _ 3 (by omega) ⟨⟨by with_unfolding_all rfl, rfl⟩, ⟨by with_unfolding_all rfl, rfl⟩, ⟨by with_unfolding_all rfl, rfl⟩, ⟨by with_unfolding_all rfl, rfl⟩, ⟨sl_int (wrap_up (by omega)), rfl⟩, trivial⟩ (by with_unfolding_all rfl)⟩
    refine W.exit ?_
    refine W.seq (R [] ?_)
    refine W.block (W.loop hc0 (ι := Nat) (fun k => ⟨139, frOf [(1, .data (I who)), (5, .ptr 0 []), (11, .ptr 2 []), (60, .data (eWords l)), (61, .data (I ((l.map eWord).length : Int))), (62, .data (I k))], [.var (eNode s) [], .var (eWord w) [], .var (eNode x) []]⟩) (fun k => k ≤ l.length) (fun k => l.length - k) 0 (by omega) ?_ ?_)
    · exact Le.cut _ 3 (by omega) ⟨⟨by with_unfolding_all rfl, rfl⟩, ⟨by with_unfolding_all rfl, rfl⟩, ⟨by with_unfolding_all rfl, rfl⟩, ⟨by with_unfolding_all rfl, rfl⟩, ⟨by with_unfolding_all rfl, rfl⟩, ⟨by with_unfolding_all rfl, rfl⟩, trivial⟩ (by with_unfolding_all rfl)
    · intro k hk
      refine R [] ?_
      refine W.seq (C (fun h => ?_) (fun h => ?_))
      · have hk : k < l.length := by have h : (k : Int) < (l.map eWord).length := of_decide_eq_true h; rw [List.length_map] at h; omega
        have hgw := goes_words hg hk
        simp only at hgw
        have hki : (0 : Int) ≤ k ∧ (k : Int) < (l.map eWord).length := ⟨by omega, by rw [List.length_map]; omega⟩
        refine W.skip (W.seq (W.block ?_))
        refine R [.is 64 (.cptr (eWord (l.getD k Word.zero)))] (ho := by exact ⟨cptr_words _ hk, hki, sizes_words _, sameWW _ _, trivial⟩) ?_
        generalize l.getD k Word.zero = u at hgw ⊢
        refine R [] ?_
        refine C (fun h => ?_) (fun h => ?_)
        · exfalso
          have h : (bif (bif (bif !(u.frm == who) then true else decide (u.height < s.height)) then true else decide (x.height < u.height)) then true else (bif u.height == s.height then decide (u.round < s.round) else false)) = true := h
          rw [bif_or, bif_or, bif_or, bif_and] at h
          simp only [Bool.or_eq_true, Bool.not_eq_true', beq_eq_false_iff_ne, decide_eq_true_eq, Bool.and_eq_true, beq_iff_eq] at h
          have h2 := hgw.2.1
          unfold PlaceR at h2
          rcases h with ((h | h) | h) | h
          · exact h hgw.1
          · omega
          · omega
          · omega
        refine W.skip ?_
        refine R1 [] ?_
        exact ⟨k + 1, by omega, by omega, Le.cut _ 3 (by omega) ⟨⟨by with_unfolding_all rfl, rfl⟩, ⟨by with_unfolding_all rfl, rfl⟩, ⟨by with_unfolding_all rfl, rfl⟩, ⟨by with_unfolding_all rfl, rfl⟩, ⟨by with_unfolding_all rfl, rfl⟩, ⟨sl_int (wrap_up (by omega)), rfl⟩, trivial⟩ (by with_unfolding_all rfl)⟩
      refine W.exit ?_
      refine R [.data (.bool (goodN x)), .data (.bool true)] (ho := by exact ⟨goodN_spec x, fun _ => nodes_keep, trivial⟩) ?_
      refine W.ret (EndB 0 hn0 ?_)
      exact bifk2 (bifk2 ((goodN_iff x).2 hg.good') (place_bif hg.adv.place)) rfl

set_option maxHeartbeats 8000000 in
set_option maxRecDepth 100000 in
theorem nodeQuiet_spec (s : Node) (who kind value : Int) (w : Word) : Pure Try.prog 7 [.data (eNode s), .data (I who), .data (I kind), .data (I value), .data (eWord w)] (.data (.bool true)) := by
  refine spec_of ttok Try.func7 rfl (by kernel_rfl) (by exact Nat.le_of_ble_eq_true rfl) fun hin hie c0 hc0 he => ?_
  have hn0 : c0.es.length ≤ 0 := Nat.le_of_eq (by rw [he]; rfl)
  have hs := after_spec s who kind value w
  have hq : kind = 0 → (afterT s who kind value w).err = 0 → hearT (afterT s who kind value w).s who w = ⟨(afterT s who kind value w).s, [], 0⟩ := by
    intro hk h
    unfold afterT at h ⊢
    rw [if_pos hk] at h ⊢
    exact hearT_quiet h
  generalize afterT s who kind value w = t at hs hq
  obtain ⟨x, l, e⟩ := t
  simp only at hq
  refine R [] ?_
  refine R [.tuple [.data (eNode x), .data (eWords l), .data (I e)]] (ho := by exact ⟨hs, sameNz _ _, trivial⟩) ?_
  refine W.seq (R [.data (I (goodW w))] (ho := by exact ⟨fun _ => good_spec w, trivial⟩) ?_)
  refine C (fun h => ?_) (fun h => ?_)
  · refine R [.data (.bool true)] (ho := by exact ⟨nodes_keep, trivial⟩) ?_
    exact W.ret (EndB 0 hn0 rfl)
  have hc : e = 0 ∧ kind = 0 := by
    have h : (bif (bif !(e == 0) then true else !(goodW w == 0)) then true else !(kind == 0)) = false := h
    rw [bif_or, bif_or] at h
    simp only [Bool.or_eq_false_iff, Bool.not_eq_false', beq_iff_eq] at h
    exact ⟨h.1.1, h.2⟩
  obtain ⟨rfl, hk⟩ := hc
  have hh := hearT_spec x who w
  rw [hq hk rfl] at hh
  refine W.skip ?_
  refine R [.tuple [.data (eNode x), .data (.list []), .data (I 0)]] (ho := by exact ⟨hh, sameNz _ _, trivial⟩) ?_
  refine R [.data (.bool true), .data (.bool true)] (ho := by exact ⟨fun _ => same_keep _, fun _ => nodes_keep, trivial⟩) ?_
  exact W.ret (EndB 0 hn0 rfl)

def evB (x : Node) (h r : Nat) : Bool := mostOk ((x.heard h).promises r) && mostV ((x.heard h).promises r) == x.settled h && ((x.heard h).calls r).is && ((x.heard h).calls r).value == mostV ((x.heard h).promises r)
def evK (x : Node) (h : Nat) : Nat → Bool
  | 0 => false
  | r + 1 => evK x h r || evB x h r
theorem evK_of {x : Node} {h r n : Nat} (hr : r < n) (hb : evB x h r = true) : evK x h n = true := by
  induction n with
  | zero => omega
  | succ n ih =>
    simp only [evK, Bool.or_eq_true]
    rcases Nat.lt_or_ge r n with h1 | h1
    · exact .inl (ih h1)
    · have : r = n := by omega
      subst this; exact .inr hb
theorem evK_evid {x : Node} {h : Nat} (he : Evid x h) : evK x h 6 = true := by
  obtain ⟨r, hr, hp, hv⟩ := he
  refine evK_of hr ?_
  have := promised_iff hp
  simp only [evB, this.1, hv, this.2.2.2.1, this.2.2.2.2, Bool.and_self, beq_self_eq_true]

set_option maxHeartbeats 8000000 in
set_option maxRecDepth 100000 in
theorem nodeSettles_spec (s : Node) (who : Int) (w : Word) : Pure Try.prog 3 [.data (eNode s), .data (I who), .data (eWord w)] (.data (.bool true)) := by
  refine spec_of ttok Try.func3 rfl (by kernel_rfl) (by exact Nat.le_of_ble_eq_true rfl) fun hin hie c0 hc0 he => ?_
  have hn0 : c0.es.length ≤ 0 := Nat.le_of_eq (by rw [he]; rfl)
  have hs := hearT_spec s who w
  have hgo : (hearT s who w).err = 0 → GoodN s ∧ ∀ k : Nat, k < 4 → s.height ≤ k → (k : Int) < (hearT s who w).s.height → evK (hearT s who w).s k 6 = true := fun h =>
    ⟨(hearT_goes h).2.2.1.good, fun k h4 h1 h2 => evK_evid (hearT_settles h h4 h1 h2)⟩
  generalize hearT s who w = t at hs hgo
  obtain ⟨x, l, e⟩ := t
  simp only at hgo
  refine R [] ?_
  refine R [.tuple [.data (eNode x), .data (eWords l), .data (I e)]] (ho := by exact ⟨hs, sameNz _ _, trivial⟩) ?_
  refine W.seq (R [.data (.bool true)] (ho := by exact ⟨fun _ => nodes_keep, trivial⟩) ?_)
  refine C (fun h => ?_) (fun h => ?_)
  · refine R [.data (.bool true)] (ho := by exact ⟨nodes_keep, trivial⟩) ?_
    exact W.ret (EndB 0 hn0 rfl)
  have he : e = 0 := by
    have h : (bif !(e == 0) then true else false) = false := h
    rw [bif_or] at h
    simpa using h
  subst he
  clear h
  obtain ⟨hg, hev⟩ := hgo rfl
  have hh := hg.height
  refine W.skip ?_
  refine W.seq (R [] ?_)
  refine W.block (W.loop hc0 (ι := Nat) (fun k => ⟨89, frOf [(7, .ptr 2 []), (10, .data (I k))], [.var (eNode s) [], .var (eWord w) [], .var (eNode x) []]⟩) (fun k => s.height ≤ k ∧ k ≤ 4) (fun k => 4 - k) s.height.toNat ⟨by omega, by omega⟩ ?_ ?_)
  · exact Le.cut _ 3 (by omega) ⟨⟨by with_unfolding_all rfl, rfl⟩, ⟨sl_int (a := s.height) (by omega), rfl⟩, trivial⟩ (by with_unfolding_all rfl)
  · intro k ⟨hk1, hk4⟩
    refine W.seq (R [] ?_)
    refine C (fun h => ?_) (fun h => ?_)
    · have hk : (k : Int) < x.height ∧ k < 4 := by
        have h : (bif decide ((k : Int) < x.height) then decide ((k : Int) < 4) else false) = true := h
        rw [bif_and] at h
        simp only [Bool.and_eq_true, decide_eq_true_eq] at h
        omega
      have hki : (0 : Int) ≤ k ∧ (k : Int) < 4 := by omega
      refine W.skip (W.seq (W.block ?_))
      refine R [] ?_
      refine W.seq (R [] ?_)
      refine W.block (W.loop hc0 (ι := Nat) (fun r => ⟨89, frOf [(7, .ptr 2 []), (10, .data (I k)), (11, .data (.bool (evK x k r))), (43, .data (I r))], [.var (eNode s) [], .var (eWord w) [], .var (eNode x) []]⟩) (fun r => r ≤ 6) (fun r => 6 - r) 0 (by omega) ?_ ?_)
      · exact Le.cut _ 3 (by omega) ⟨⟨by with_unfolding_all rfl, rfl⟩, ⟨by with_unfolding_all rfl, rfl⟩, ⟨by with_unfolding_all rfl, rfl⟩, ⟨by with_unfolding_all rfl, rfl⟩, trivial⟩ (by with_unfolding_all rfl)
      · intro r hr
        refine R [] ?_
        refine W.seq (C (fun h => ?_) (fun h => ?_))
        · have hr : r < 6 := by have := of_decide_eq_true h; omega
          have hri : (0 : Int) ≤ r ∧ (r : Int) < 6 := by omega
          refine W.skip (W.seq (W.block ?_))
          refine R [] ?_
          refine R [.tuple [.data (I (mostV ((x.heard k).promises r))), .data (.bool (mostOk ((x.heard k).promises r)))]] (ho := by exact ⟨hki, hri, most_spec _, trivial⟩) ?_
          refine R [] (ho := by exact ⟨hki, hri, sameCC _ _, trivial⟩) ?_
          refine R1 [] (ho := by exact ⟨fun _ => hki, trivial⟩) ?_
          refine R1 [] ?_
          refine ⟨r + 1, by omega, by omega, Le.cut _ 3 (by omega) ⟨⟨by with_unfolding_all rfl, rfl⟩, ⟨by with_unfolding_all rfl, rfl⟩, ⟨sl_bool ?_, rfl⟩, ⟨sl_int (wrap_up (by omega)), rfl⟩, trivial⟩ (by with_unfolding_all rfl)⟩
          simp only [evK, evB, bif_or, bif_and]; rfl
        have hr : r = 6 := by have := of_decide_eq_false h; omega
        subst hr
        refine W.exit ?_
        refine R [] ?_
        refine C (fun h => ?_) (fun h => ?_)
        · exfalso
          have h : (!evK x k 6) = true := h
          rw [hev k hk.2 hk1 hk.1] at h
          cases h
        refine W.skip ?_
        refine R1 [] ?_
        exact ⟨k + 1, ⟨by omega, by omega⟩, by omega, Le.cut _ 3 (by omega) ⟨⟨by with_unfolding_all rfl, rfl⟩, ⟨sl_int (wrap_up (by omega)), rfl⟩, trivial⟩ (by with_unfolding_all rfl)⟩
    refine W.exit ?_
    refine R [] ?_
    exact W.ret (EndB 0 hn0 rfl)

end Go.W
