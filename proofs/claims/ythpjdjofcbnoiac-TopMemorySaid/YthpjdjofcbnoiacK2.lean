/-
  Texts for the law TopMemory: Ha Hb Hc Hd He Hf Hg Hh.
-/
import Derived.Test.YthpjdjofcbnoiacPf
import Derived.Test.YthpjdjofcbnoiacPe
import Derived.Test.YthpjdjofcbnoiacWz

/-
  Package crowd, walked: what a client takes; clones and deletions of letters.
-/
namespace Go.W
open Go.Proofs

theorem cntH_bd (l : Nat → Nat → Int) (h : Nat) (v : Int) : ∀ k, 0 ≤ cntH l h v k ∧ cntH l h v k ≤ k
  | 0 => by simp [cntH]
  | k + 1 => by
    have := cntH_bd l h v k
    simp only [cntH]
    split <;> omega

/-- What is taken of the first h. -/
def outH (l : Nat → Nat → Int) (h : Nat) : Nat → Int := fun j => bif Nat.blt j h then pickH l j else 0
theorem outH_end {l : Nat → Nat → Int} {h : Nat} (hp : pickAll l h = true) (h4 : h = 4 ∨ pickH l h = 0) (hh : h ≤ 4) : outH l h = takeV l := by
  have hall : ∀ k, pickAll l k = true ↔ ∀ j, j < k → pickH l j ≠ 0 := by
    intro k
    induction k with
    | zero => simp [pickAll]
    | succ k ih =>
      simp only [pickAll, Bool.and_eq_true, ih, Bool.not_eq_true', beq_eq_false_iff_ne]
      constructor
      · rintro ⟨h1, h2⟩ j hj
        rcases Nat.lt_or_ge j k with h | h
        · exact h1 j h
        · have : j = k := by omega
          subst this; exact h2
      · intro h
        exact ⟨fun j hj => h j (by omega), h k (by omega)⟩
  rw [hall] at hp
  funext j
  unfold outH takeV
  by_cases hj : j < h
  · have e1 : Nat.blt j h = true := by simpa [Nat.blt_eq] using hj
    rw [e1, cond_true, if_pos]
    simp only [Bool.and_eq_true, decide_eq_true_eq, hall]
    exact ⟨by omega, fun i hi => hp i (by omega)⟩
  · have e1 : Nat.blt j h = false := by
      cases hb : Nat.blt j h with
      | false => rfl
      | true => exact absurd (by simpa [Nat.blt_eq] using hb) hj
    rw [e1, cond_false]
    split
    · rename_i hc
      simp only [Bool.and_eq_true, decide_eq_true_eq, hall] at hc
      rcases h4 with h4 | h4
      · omega
      · exact absurd h4 (hc.2 h (by omega))
    · rfl
theorem outH_upd (l : Nat → Nat → Int) (h : Nat) : upd (outH l h) h (pickH l h) = outH l (h + 1) := by
  funext j
  by_cases e : j = h
  · subst e
    rw [upd_same]
    have : Nat.blt j (j + 1) = true := by simp [Nat.blt_eq]
    simp only [outH, this, cond_true]
  · rw [upd_other _ _ e]
    have : Nat.blt j h = Nat.blt j (h + 1) := by
      rw [Bool.eq_iff_iff]
      simp only [Nat.blt_eq]
      omega
    simp only [outH, this]
theorem outH_at (l : Nat → Nat → Int) (h : Nat) : upd (outH l h) h 0 = outH l h := by
  funext j
  by_cases e : j = h
  · subst e
    rw [upd_same]
    have : Nat.blt j j = false := by
      cases hb : Nat.blt j j with
      | false => rfl
      | true => exact absurd (Nat.blt_eq ▸ hb : j < j) (Nat.lt_irrefl j)
    simp only [outH, this, cond_false]
  · rw [upd_other _ _ e]
theorem upd_upd {α : Type} (f : Nat → α) (k : Nat) (x y : α) : upd (upd f k x) k y = upd f k y := by
  funext j
  by_cases e : j = k
  · subst e; rw [upd_same, upd_same]
  · rw [upd_other _ _ e, upd_other _ _ e, upd_other _ _ e]

set_option maxHeartbeats 8000000 in
set_option maxRecDepth 100000 in
theorem take_spec (l : Nat → Nat → Int) : Pure Try.prog 35 [.data (eInts44 l)] (.data (eVotes (takeV l))) := by
  refine spec_of ttok Try.func35 rfl (by kernel_rfl) (by exact Nat.le_of_ble_eq_true rfl) fun hin hie c0 hc0 he => ?_
  have hn0 : c0.es.length ≤ 0 := Nat.le_of_eq (by rw [he]; rfl)
  refine R [] ?_
  refine R [] ?_
  refine W.seq (R [] ?_)
  refine W.block (W.loop hc0 (ι := Nat) (fun h => ⟨45, frOf [(1, .ptr 0 []), (2, .ptr 1 []), (3, .ptr 2 []), (9, .data (I h))], [.var (eInts44 l) [], .var (eVotes fun _ => 0) [], .var (eVotes (outH l h)) []]⟩) (fun h => h ≤ 4 ∧ pickAll l h = true) (fun h => 4 - h) 0 ⟨by omega, rfl⟩ ?_ ?_)
  · refine Le.cut _ 3 (by omega) ⟨⟨by with_unfolding_all rfl, rfl⟩, ⟨by with_unfolding_all rfl, rfl⟩, ⟨by with_unfolding_all rfl, rfl⟩, ⟨by with_unfolding_all rfl, rfl⟩, trivial⟩ ?_
    have : outH l 0 = fun _ => 0 := by funext j; rfl
    rw [this]
    with_unfolding_all rfl
  · intro h ⟨hh, hp⟩
    refine R [] ?_
    refine W.seq (C (fun hb => ?_) (fun hb => ?_))
    · have hh : h < 4 := by have := of_decide_eq_true hb; omega
      have hhi : (0 : Int) ≤ h ∧ (h : Int) < 4 := by omega
      refine W.skip (W.seq (W.block ?_))
      refine R [] ?_
      refine W.seq (R [] ?_)
      refine W.block (W.loop hc0 (ι := Nat) (fun k => ⟨45, frOf [(1, .ptr 0 []), (2, .ptr 1 []), (3, .ptr 2 []), (4, .data (I h)), (5, .data (I ((k + 1 : Nat) : Int))), (9, .data (I h))], [.var (eInts44 l) [], .var (eVotes fun _ => 0) [], .var (eVotes (upd (outH l h) h (leastH l h k))) []]⟩) (fun k => k ≤ 9) (fun k => 9 - k) 0 (by omega) ?_ ?_)
      · refine Le.cut _ 3 (by omega) ⟨⟨by with_unfolding_all rfl, rfl⟩, ⟨by with_unfolding_all rfl, rfl⟩, ⟨by with_unfolding_all rfl, rfl⟩, ⟨by with_unfolding_all rfl, rfl⟩, ⟨by with_unfolding_all rfl, rfl⟩, ⟨by with_unfolding_all rfl, rfl⟩, trivial⟩ ?_
        have : upd (outH l h) h (leastH l h 0) = outH l h := outH_at l h
        rw [this]
        with_unfolding_all rfl
      · intro k hk
        refine W.seq (R [.is 17 (.data (I (leastH l h k)))] (ho := by exact ⟨fun _ => hhi, fun _ => congrArg (fun x => AV.data (I x)) (upd_same (outH l h) h (leastH l h k)), trivial⟩) ?_)
        refine C (fun hb => ?_) (fun hb => ?_)
        · have hc : ((k + 1 : Nat) : Int) ≤ 9 ∧ leastH l h k = 0 := by
            have hb : (bif decide (((k + 1 : Nat) : Int) ≤ 9) then leastH l h k == 0 else false) = true := hb
            rw [bif_and] at hb
            simpa only [Bool.and_eq_true, decide_eq_true_eq, beq_iff_eq] using hb
          clear hb
          have hk9 : k < 9 := by omega
          refine W.skip (W.seq (W.block ?_))
          refine R [] ?_
          refine W.seq (R [] ?_)
          refine W.block (W.loop hc0 (ι := Nat) (fun i => ⟨45, frOf [(1, .ptr 0 []), (2, .ptr 1 []), (3, .ptr 2 []), (4, .data (I h)), (5, .data (I ((k + 1 : Nat) : Int))), (6, .data (I (cntH l h ((k : Int) + 1) i))), (9, .data (I h)), (22, .data (eInts44 l)), (23, .data (I i))], [.var (eInts44 l) [], .var (eVotes fun _ => 0) [], .var (eVotes (upd (outH l h) h (leastH l h k))) []]⟩) (fun i => i ≤ 4) (fun i => 4 - i) 0 (by omega) ?_ ?_)
          · exact Le.cut _ 3 (by omega) ⟨⟨by with_unfolding_all rfl, rfl⟩, ⟨by with_unfolding_all rfl, rfl⟩, ⟨by with_unfolding_all rfl, rfl⟩, ⟨by with_unfolding_all rfl, rfl⟩, ⟨by with_unfolding_all rfl, rfl⟩, ⟨by with_unfolding_all rfl, rfl⟩, ⟨by with_unfolding_all rfl, rfl⟩, ⟨by with_unfolding_all rfl, rfl⟩, ⟨by with_unfolding_all rfl, rfl⟩, trivial⟩ (by with_unfolding_all rfl)
          · intro i hi
            have hb4 := cntH_bd l h ((k : Int) + 1) i
            refine R [] ?_
            refine W.seq (C (fun hb => ?_) (fun hb => ?_))
            · have hi : i < 4 := by have := of_decide_eq_true hb; omega
              refine W.skip (W.seq (W.block ?_))
              refine R [] (ho := by exact ⟨⟨by omega, by omega⟩, sameVV _ _, trivial⟩) ?_
              refine R [] (ho := by exact ⟨hhi, trivial⟩) ?_
              refine C (fun hb => ?_) (fun hb => ?_)
              · have he : l i h = (k : Int) + 1 := by
                  have hb : (l i h == ((k + 1 : Nat) : Int)) = true := hb
                  have := beq_iff_eq.1 hb
                  omega
                refine R1 [] ?_
                refine R1 [] ?_
                refine ⟨i + 1, by omega, by omega, Le.cut _ 3 (by omega) ⟨⟨by with_unfolding_all rfl, rfl⟩, ⟨by with_unfolding_all rfl, rfl⟩, ⟨by with_unfolding_all rfl, rfl⟩, ⟨by with_unfolding_all rfl, rfl⟩, ⟨by with_unfolding_all rfl, rfl⟩, ⟨sl_int ?_, rfl⟩, ⟨by with_unfolding_all rfl, rfl⟩, ⟨by with_unfolding_all rfl, rfl⟩, ⟨sl_int (wrap_up (by omega)), rfl⟩, trivial⟩ (by with_unfolding_all rfl)⟩
                rw [i64_wrap (by omega) (by omega), cntH, if_pos he]
              · have he : ¬ l i h = (k : Int) + 1 := by
                  have hb : (l i h == ((k + 1 : Nat) : Int)) = false := hb
                  have := beq_eq_false_iff_ne.1 hb
                  omega
                refine W.skip ?_
                refine R1 [] ?_
                refine ⟨i + 1, by omega, by omega, Le.cut _ 3 (by omega) ⟨⟨by with_unfolding_all rfl, rfl⟩, ⟨by with_unfolding_all rfl, rfl⟩, ⟨by with_unfolding_all rfl, rfl⟩, ⟨by with_unfolding_all rfl, rfl⟩, ⟨by with_unfolding_all rfl, rfl⟩, ⟨sl_int ?_, rfl⟩, ⟨by with_unfolding_all rfl, rfl⟩, ⟨by with_unfolding_all rfl, rfl⟩, ⟨sl_int (wrap_up (by omega)), rfl⟩, trivial⟩ (by with_unfolding_all rfl)⟩
                rw [cntH, if_neg he]; omega
            · have hi : i = 4 := by have := of_decide_eq_false hb; omega
              subst hi
              have hls : leastH l h (k + 1) = if 2 ≤ cntH l h ((k : Int) + 1) 4 then (k : Int) + 1 else 0 := by
                simp only [leastH]; rw [if_pos hc.2]
              refine W.exit ?_
              refine R [] ?_
              refine C (fun hb => ?_) (fun hb => ?_)
              · have h2 : 2 ≤ cntH l h ((k : Int) + 1) 4 := of_decide_eq_true hb
                rw [if_pos h2] at hls
                refine R1 [] (ho := by exact ⟨hhi, trivial⟩) ?_
                refine R1 [] ?_
                refine ⟨k + 1, by omega, by omega, Le.cut _ 3 (by omega) ⟨⟨by with_unfolding_all rfl, rfl⟩, ⟨by with_unfolding_all rfl, rfl⟩, ⟨by with_unfolding_all rfl, rfl⟩, ⟨by with_unfolding_all rfl, rfl⟩, ⟨sl_int (wrap_up (by omega)), rfl⟩, ⟨by with_unfolding_all rfl, rfl⟩, trivial⟩ ?_⟩
                have e1 := votes_set (upd (outH l h) h (leastH l h k)) h ((k + 1 : Nat) : Int)
                rw [upd_upd] at e1
                rw [hls]
                with_unfolding_all exact congrArg (fun d => [Ent.var (eInts44 l) [], .var (eVotes fun _ => 0) [], .var d []]) e1
              · have h2 : ¬ 2 ≤ cntH l h ((k : Int) + 1) 4 := of_decide_eq_false hb
                rw [if_neg h2] at hls
                refine W.skip ?_
                refine R1 [] ?_
                refine ⟨k + 1, by omega, by omega, Le.cut _ 3 (by omega) ⟨⟨by with_unfolding_all rfl, rfl⟩, ⟨by with_unfolding_all rfl, rfl⟩, ⟨by with_unfolding_all rfl, rfl⟩, ⟨by with_unfolding_all rfl, rfl⟩, ⟨sl_int (wrap_up (by omega)), rfl⟩, ⟨by with_unfolding_all rfl, rfl⟩, trivial⟩ ?_⟩
                rw [hls, ← hc.2]
                with_unfolding_all rfl
        · have hc : k = 9 ∨ leastH l h k ≠ 0 := by
            have hb : (bif decide (((k + 1 : Nat) : Int) ≤ 9) then leastH l h k == 0 else false) = false := hb
            rw [bif_and] at hb
            simp only [Bool.and_eq_false_iff, decide_eq_false_iff_not, beq_eq_false_iff_ne] at hb
            rcases hb with hb | hb
            · left; omega
            · right; exact hb
          have hpk : leastH l h k = pickH l h := by
            rcases hc with hc | hc
            · subst hc; rfl
            · exact (leastH_stop hc 9 hk).symm
          refine W.exit ?_
          refine R [.is 41 (.data (I (leastH l h k)))] (ho := by exact ⟨hhi, congrArg (fun x => AV.data (I x)) (upd_same (outH l h) h (leastH l h k)), trivial⟩) ?_
          refine C (fun hb => ?_) (fun hb => ?_)
          · have h0 : pickH l h = 0 := by
              have hb : (leastH l h k == 0) = true := hb
              rw [← hpk]; simpa using hb
            refine W.exit ?_
            refine R [] (ho := by exact ⟨sameVV _ _, trivial⟩) ?_
            refine W.ret (End 0 hn0 ⟨?_, rfl⟩)
            have e : upd (outH l h) h (leastH l h k) = takeV l := by
              rw [hpk, h0, outH_at]
              exact outH_end hp (.inr h0) (by omega)
            exact congrArg (fun v => AV.data (eVotes v)) e
          · have h0 : pickH l h ≠ 0 := by
              have hb : (leastH l h k == 0) = false := hb
              rw [← hpk]; simpa using hb
            refine W.skip ?_
            refine R1 [] ?_
            refine ⟨h + 1, ⟨by omega, by simp [pickAll, hp, h0]⟩, by omega, Le.cut _ 3 (by omega) ⟨⟨by with_unfolding_all rfl, rfl⟩, ⟨by with_unfolding_all rfl, rfl⟩, ⟨by with_unfolding_all rfl, rfl⟩, ⟨sl_int (wrap_up (by omega)), rfl⟩, trivial⟩ ?_⟩
            rw [← outH_upd, ← hpk]
            with_unfolding_all rfl
    · have hh : h = 4 := by have := of_decide_eq_false hb; omega
      subst hh
      refine W.exit ?_
      refine R [] (ho := by exact ⟨sameVV _ _, trivial⟩) ?_
      refine W.ret (End 0 hn0 ⟨?_, rfl⟩)
      exact congrArg (fun v => AV.data (eVotes v)) (outH_end hp (.inl rfl) (by omega))

end Go.W

/-
  Package crowd, walked: lists of letters; new crowds, what they tell.
-/
namespace Go.W
open Go.Proofs

theorem cptr_letters (l : List Letter) {k : Nat} (h : k < l.length) : AV.cptr ((l.map eLetter).getD k default) = .cptr (eLetter (l.getD k Letter.zero)) := by
  simp [List.getElem?_eq_getElem h]
theorem size_letter (x : Letter) : (eLetter x).size = 7 := rfl
theorem sizes_letters (l : List Letter) : ∀ d ∈ l.map eLetter, d.size = 7 := by
  intro d hd
  obtain ⟨v, _, rfl⟩ := List.mem_map.1 hd
  rfl
theorem sizes_letters1 (l : List Letter) (x : Letter) : ∀ d ∈ l.map eLetter ++ [eLetter x], d.size = 7 := by
  intro d hd
  rcases List.mem_append.1 hd with h | h
  · exact sizes_letters l d h
  · rw [List.mem_singleton.1 h]; rfl
theorem fits_letters1 (l : List Letter) (x : Letter) (h : l.length ≤ 2000) : (l.map eLetter ++ [eLetter x]).length ≤ maxLen ∧ (l.map eLetter ++ [eLetter x]).length * 56 ≤ 140737488355328 := by
  rw [List.length_append, List.length_map]
  unfold maxLen
  simp only [List.length_cons, List.length_nil]
  omega
theorem fits_letters (l : List Letter) (h : l.length ≤ 2000) : (l.map eLetter).length ≤ maxLen ∧ (l.map eLetter).length * 56 ≤ 140737488355328 := by
  rw [List.length_map]
  unfold maxLen
  omega
theorem noList_letter (x : Letter) : noList (eLetter x) = true := rfl
theorem sameLL (a b : Letter) : Same (eLetter a) (eLetter b) := ⟨rfl, fun i hi => by
  match i, hi with
  | 0, _ => trivial
  | 1, _ => exact sameWW _ _⟩

def ownL (l : List Letter) : Nat → D := fun i => eLetter (l.getD i Letter.zero)
theorem lst_ownL (l : List Letter) : lst (ownL l) 0 l.length = l.map eLetter := by
  have := lst_eq (f := ownL l) (l.map eLetter) 0 (fun j hj => by
    have h' : j < l.length := by simpa using hj
    simp [ownL, List.getElem?_eq_getElem h'])
  rwa [List.length_map] at this

set_option maxRecDepth 100000 in
theorem cloneLetters_row (l : List Letter) (hl : l.length ≤ 2000) : Fn Try.prog 30 [.data (eLetters l)] [] (.row 0 (l.map eLetter)) [.row 7 (l.map eLetter)] := by
  refine spec_of ttok Try.func30 rfl (by kernel_rfl) (by exact Nat.le_of_ble_eq_true rfl) fun hin hie c0 hc0 he => ?_
  have hn0 : c0.es.length ≤ 0 := Nat.le_of_eq (by rw [he]; rfl)
  refine R [] ?_
  refine W.seq (W.seq (NT (fun b hb => ?_)))
  refine C (fun h => ?_) (fun h => ?_)
  · have hnil : l.map eLetter = [] := hb h
    refine R [] ?_
    refine W.le hc0 (Le.slotRow 2 7 (by with_unfolding_all rfl)) ?_
    refine W.ret (End 1 (by omega) ⟨?_, ?_⟩)
    · rw [hnil]; rfl
    · rw [hnil]; rfl
  · refine W.skip ?_
    refine R [] (ho := by exact ⟨sizes_letters l, fits_letters l hl, trivial⟩) ?_
    exact W.ret (End 1 (by omega) ⟨rfl, rfl⟩)

set_option maxRecDepth 100000 in
theorem cloneLetters_own (l : List Letter) (hne : l ≠ []) (hl : l.length ≤ 2000) : Fn Try.prog 30 [.data (eLetters l)] [] (.sl 0 0 l.length l.length) [.var (.arr l.length 7 (ownL l)) []] := by
  refine spec_of ttok Try.func30 rfl (by kernel_rfl) (by exact Nat.le_of_ble_eq_true rfl) fun hin hie c0 hc0 he => ?_
  have hz : c0.es.length = 0 := by rw [he]; rfl
  refine R [] ?_
  refine W.seq (W.seq (NT (fun b hb => ?_)))
  refine C (fun h => ?_) (fun h => ?_)
  · exact absurd (List.map_eq_nil_iff.1 (hb h)) hne
  · refine W.skip ?_
    refine R [] (ho := by exact ⟨sizes_letters l, fits_letters l hl, trivial⟩) ?_
    refine W.le hc0 (s' := ⟨8, frOf [(2, .sl 0 0 (l.map eLetter).length (l.map eLetter).length)], [.var (.arr (l.map eLetter).length 7 (ownL l)) []]⟩) ?_ ?_
    · rw [hz]
      refine Le.rowOwn 2 7 (xs := l.map eLetter) (f := ownL l) (by with_unfolding_all rfl) (by with_unfolding_all rfl) (by simpa using hne) ?_ ?_ ?_
      · intro i h
        have h' : i < l.length := by simpa using h
        simp [ownL, List.getElem?_eq_getElem h']
      · intro i _; rfl
      · intro i _; rfl
    have hlm : (l.map eLetter).length = l.length := List.length_map _
    refine W.ret (End 1 (by omega) ⟨?_, ?_⟩)
    · rw [← hlm]; rfl
    · rw [← hlm]; rfl

theorem erase_own (l : List Letter) {n : Nat} (hn : n < l.length) :
    (fun j => bif inR (n + (l.length - (n + 1))) (l.length - (n + (l.length - (n + 1)))) j then eLetter Letter.zero else (bif inR n (l.length - (n + 1)) j then ownL l (n + 1 + (j - n)) else ownL l j)) = ownL (l.eraseIdx n) := by
  funext j
  have hlen : (l.eraseIdx n).length = l.length - 1 := List.length_eraseIdx_of_lt hn
  unfold ownL
  by_cases h1 : j < n
  · have e1 : inR (n + (l.length - (n + 1))) (l.length - (n + (l.length - (n + 1)))) j = false := by
      cases hb : inR (n + (l.length - (n + 1))) (l.length - (n + (l.length - (n + 1)))) j with
      | false => rfl
      | true => have := inR_spec.1 hb; omega
    have e2 : inR n (l.length - (n + 1)) j = false := by
      cases hb : inR n (l.length - (n + 1)) j with
      | false => rfl
      | true => have := inR_spec.1 hb; omega
    rw [e1, e2]
    simp only [cond_false, List.getD_eq_getElem?_getD, List.getElem?_eraseIdx, if_pos h1]
  · by_cases h2 : j < l.length - 1
    · have e1 : inR (n + (l.length - (n + 1))) (l.length - (n + (l.length - (n + 1)))) j = false := by
        cases hb : inR (n + (l.length - (n + 1))) (l.length - (n + (l.length - (n + 1)))) j with
        | false => rfl
        | true => have := inR_spec.1 hb; omega
      have e2 : inR n (l.length - (n + 1)) j = true := inR_spec.2 (by omega)
      rw [e1, e2]
      simp only [cond_false, cond_true, List.getD_eq_getElem?_getD, List.getElem?_eraseIdx, if_neg h1]
      rw [show n + 1 + (j - n) = j + 1 by omega]
    · have e0 : (l.eraseIdx n).getD j Letter.zero = Letter.zero := by
        rw [List.getD_eq_getElem?_getD, List.getElem?_eq_none (by omega)]; rfl
      rw [e0]
      by_cases h3 : j < l.length
      · have e1 : inR (n + (l.length - (n + 1))) (l.length - (n + (l.length - (n + 1)))) j = true := inR_spec.2 (by omega)
        rw [e1]; rfl
      · have e1 : inR (n + (l.length - (n + 1))) (l.length - (n + (l.length - (n + 1)))) j = false := by
          cases hb : inR (n + (l.length - (n + 1))) (l.length - (n + (l.length - (n + 1)))) j with
          | false => rfl
          | true => have := inR_spec.1 hb; omega
        have e2 : inR n (l.length - (n + 1)) j = false := by
          cases hb : inR n (l.length - (n + 1)) j with
          | false => rfl
          | true => have := inR_spec.1 hb; omega
        rw [e1, e2]
        simp only [cond_false, List.getD_eq_getElem?_getD, List.getElem?_eq_none (show l.length ≤ j by omega)]
        rfl

set_option maxHeartbeats 4000000 in
set_option maxRecDepth 100000 in
theorem deleteLetters_spec (l : List Letter) (n : Nat) (hn : n < l.length) (hl : l.length ≤ 2000) : Fn Try.prog 29 [.sl 0 0 l.length l.length, .data (I n), .data (I ((n + 1 : Nat) : Int))] [.var (.arr l.length 7 (ownL l)) []]
    (.sl 0 0 (l.eraseIdx n).length l.length) [.var (.arr l.length 7 (ownL (l.eraseIdx n))) []] := by
  refine spec_of ttok Try.func29 rfl (by kernel_rfl) (by exact Nat.le_of_ble_eq_true rfl) fun hin hie c0 hc0 he => ?_
  have hn0 : c0.es.length ≤ 1 := Nat.le_of_eq (by rw [he]; rfl)
  have hlen : (l.eraseIdx n).length = l.length - 1 := List.length_eraseIdx_of_lt hn
  refine R [] ?_
  refine R [] (ho := by exact ⟨⟨by show (0 : Int) ≤ _; omega, by show (n : Int) ≤ ((n + 1 : Nat) : Int); omega, by omega, by omega⟩, trivial⟩) ?_
  refine W.seq (R [] ?_)
  refine C (fun h => ?_) (fun h => ?_)
  · exfalso
    have h : ((n : Int) == ((n + 1 : Nat) : Int)) = true := h
    have := beq_iff_eq.1 h
    omega
  refine W.skip ?_
  refine R [] ?_
  refine RD [] (ho := ?ob) ?_
  case ob =>
    refine ⟨⟨trivial, by show (0 : Int) ≤ _; omega, by omega, .inl (by show (n : Nat) ≤ l.length; omega)⟩, ⟨by show (0 : Int) ≤ _; omega, trivial, by show n + 1 ≤ l.length; omega, .inl (by omega)⟩, ?_, ?_, fun _ _ _ _ => sameLL _ _, trivial⟩
    · show n + (l.length - (n + 1)) ≤ l.length; omega
    · show n + (l.length - (n + 1)) ≤ l.length; omega
  refine W.le hc0 (s' := ⟨33, frOf [(0, .sl 0 0 (n + (l.length - (n + 1))) l.length), (7, .data (I l.length))], [.var (.arr l.length 7 fun j => bif inR n (l.length - (n + 1)) j then ownL l (n + 1 + (j - n)) else ownL l j) []]⟩) (Le.cut _ 1 hn0 ⟨⟨by with_unfolding_all rfl, rfl⟩, ⟨by with_unfolding_all rfl, rfl⟩, trivial⟩ (by with_unfolding_all rfl)) ?_
  refine R [] (ho := ?ob2) ?_
  case ob2 =>
    refine ⟨⟨?_, ?_, ?_, ?_⟩, ?_, trivial⟩
    · show (0 : Int) ≤ _; omega
    · show (0 : Int) ≤ _; omega
    · show n + (l.length - (n + 1)) ≤ l.length; omega
    · exact .inr ⟨Nat.le_refl _, by show 0 + l.length ≤ l.length; omega⟩
    · intro j hj
      show Same (bif inR n (l.length - (n + 1)) j then eLetter (l.getD (n + 1 + (j - n)) Letter.zero) else eLetter (l.getD j Letter.zero)) (eLetter Letter.zero)
      cases inR n (l.length - (n + 1)) j <;> exact sameLL _ _
  refine R [] ?_
  refine W.ret (End 1 hn0 ⟨?_, ?_⟩)
  · have e : n + (l.length - (n + 1)) = (l.eraseIdx n).length := by omega
    rw [← e]; rfl
  · have e := erase_own l hn
    with_unfolding_all exact congrArg (fun f => [Ent.var (.arr l.length 7 f) []]) e

end Go.W

/-
  Package crowd, walked: new crowds, what they tell.
-/
namespace Go.W
open Go.Proofs

/-- A crowd: its letters are a row. -/
abbrev CE (c : CrowdS) : List Ent := [.var (eCrowd c) [([1], 1)], .row 7 (c.net.map eLetter)]

theorem crowdD {f : Nat → D} {n m : D} {l a : Int} (h0 : f 0 = n) (h1 : f 1 = m) (h2 : f 2 = I l) (h3 : f 3 = I a) (h4 : ∀ i, f (i + 4) = .nil) : D.agg 4 f = eCrowdD n m l a := by
  unfold eCrowdD
  congr 1
  funext i
  match i with
  | 0 => exact h0
  | 1 => exact h1
  | 2 => exact h2
  | 3 => exact h3
  | i + 4 => exact h4 i
theorem crowd_set0 (n m : D) (l a : Int) (p : List Nat) (u : D) : (eCrowdD n m l a).set (0 :: p) u = eCrowdD (n.set p u) m l a := by
  simp only [eCrowdD, D.set]
  exact crowdD rfl rfl rfl rfl fun _ => rfl
theorem crowd_set1 (n m : D) (l a : Int) (u : D) : (eCrowdD n m l a).set [1] u = eCrowdD n u l a := by
  simp only [eCrowdD, D.set, set_nil]
  exact crowdD rfl rfl rfl rfl fun _ => rfl
theorem crowd_set2 (n m : D) (l a x : Int) : (eCrowdD n m l a).set [2] (I x) = eCrowdD n m x a := by
  simp only [eCrowdD, D.set, set_nil]
  exact crowdD rfl rfl rfl rfl fun _ => rfl
theorem crowd_set3 (n m : D) (l a x : Int) : (eCrowdD n m l a).set [3] (I x) = eCrowdD n m l x := by
  simp only [eCrowdD, D.set, set_nil]
  exact crowdD rfl rfl rfl rfl fun _ => rfl
theorem nodes_set' (v : Nat → Node) (i : Nat) (x : Node) : (eNodes v).set [i] (eNode x) = eNodes (upd v i x) := nodes_set (set_nil _ _)

theorem DRle.nodeN (s : Node) : DRle (eNodeQ s .nil) (eNodeQ s (eQ [])) := .agg fun i hi => by
  match i, hi with
  | 0, _ => exact .refl _
  | 1, _ => exact .refl _
  | 2, _ => exact .refl _
  | 3, _ => exact .refl _
  | 4, _ => exact .refl _
  | 5, _ => exact .refl _
  | 6, _ => exact .refl _
  | 7, _ => exact .refl _
  | 8, _ => exact .refl _
  | 9, _ => exact .refl _
  | 10, _ => exact .nil
theorem DRle.crowd {n n' m : D} {l a : Int} (h : DRle n n') : DRle (eCrowdD n m l a) (eCrowdD n' m l a) := .agg fun i hi => by
  match i, hi with
  | 0, _ => exact h
  | 1, _ => exact .refl _
  | 2, _ => exact .refl _
  | 3, _ => exact .refl _

def freshK (k : Nat) : Nat → Node := fun i => if i < k then newN else Node.zero
theorem freshK_upd (k : Nat) : upd (freshK k) k newN = freshK (k + 1) := by
  funext i
  by_cases e : i = k
  · subst e; rw [upd_same]; simp [freshK]
  · rw [upd_other _ _ e]
    unfold freshK
    by_cases h : i < k
    · rw [if_pos h, if_pos (by omega)]
    · rw [if_neg h, if_neg (by omega)]

set_option maxRecDepth 100000 in
theorem newC_err (liar : Int) (h : liar < -1 ∨ 4 ≤ liar) : Pure Try.prog 15 [.data (I liar)] (.tuple [.nilptr, .data (I 2)]) := by
  refine spec_of ttok Try.func15 rfl (by kernel_rfl) (by exact Nat.le_of_ble_eq_true rfl) fun hin hie c0 hc0 he => ?_
  have hn0 : c0.es.length ≤ 0 := Nat.le_of_eq (by rw [he]; rfl)
  refine R [] ?_
  refine W.seq (R [] ?_)
  refine C (fun hb => ?_) (fun hb => ?_)
  · refine R [] ?_
    exact W.ret (End 0 hn0 ⟨rfl, rfl⟩)
  · exfalso
    rw [bif_or] at hb
    simp only [Bool.or_eq_false_iff, decide_eq_false_iff_not] at hb
    omega

set_option maxHeartbeats 4000000 in
set_option maxRecDepth 100000 in
theorem newC_ok (liar : Int) (h : -1 ≤ liar ∧ liar < 4) : Fn Try.prog 15 [.data (I liar)] [] (.tuple [.ptr 0 [], .data (I 0)]) (CE (newC liar)) := by
  refine spec_of ttok Try.func15 rfl (by kernel_rfl) (by exact Nat.le_of_ble_eq_true rfl) fun hin hie c0 hc0 he => ?_
  have hn0 : c0.es.length ≤ 0 := Nat.le_of_eq (by rw [he]; rfl)
  refine R [] ?_
  refine W.seq (R [] ?_)
  refine C (fun hb => ?_) (fun hb => ?_)
  · exfalso
    rw [bif_or] at hb
    simp only [Bool.or_eq_true, decide_eq_true_eq] at hb
    omega
  clear hb
  refine W.skip ?_
  refine R [] ?_
  refine W.ents (es' := [.var (eCrowdD (eNodesN fun _ => Node.zero) .nil liar 0) []]) ?_ ?_
  · with_unfolding_all exact congrArg (fun d => [Ent.var d []]) (crowd_set2 (eNodesN fun _ => Node.zero) .nil 0 0 liar)
  refine W.le hc0 (Le.recast 0 (d := eCrowdD (eNodesN fun _ => Node.zero) .nil liar 0) (d' := eCrowdD (eNodes (freshK 0)) .nil liar 0) (tok := []) rfl (DRle.crowd (DRle.arr fun i _ => DRle.nodeN Node.zero)) (fun _ _ h => by cases h)) ?_
  refine W.le hc0 (Le.nilRow 0 [1] 7 (d := eCrowdD (eNodes (freshK 0)) .nil liar 0) (tok := []) rfl ⟨by omega, trivial⟩ rfl) ?_
  refine W.seq (R [] ?_)
  refine W.block (W.loop hc0 (ι := Nat) (fun k => ⟨26, frOf [(4, .ptr 0 []), (15, .data (I k))], CE ⟨freshK k, [], liar, 0⟩⟩) (fun k => k ≤ 4) (fun k => 4 - k) 0 (by omega) ?_ ?_)
  · refine Le.cut _ 2 (by omega) ⟨⟨by with_unfolding_all rfl, rfl⟩, ⟨by with_unfolding_all rfl, rfl⟩, trivial⟩ ?_
    with_unfolding_all exact congrArg (fun d => [Ent.var d [([1], 1)], .row 7 []]) (crowd_set1 (eNodes (freshK 0)) .nil liar 0 (.list []))
  · intro k hk
    refine R [] ?_
    refine W.seq (C (fun hb => ?_) (fun hb => ?_))
    · have hk : k < 4 := by have := of_decide_eq_true hb; omega
      refine W.skip (W.seq (W.block ?_))
      refine R [] ?_
      refine RD1 [.data (eNode newN)] (ho := by exact ⟨new_spec, ⟨by omega, by omega⟩, sameNN _ _, trivial⟩) ?_
      refine R1 [] ?_
      refine ⟨k + 1, by omega, by omega, Le.cut _ 2 (by omega) ⟨⟨by with_unfolding_all rfl, rfl⟩, ⟨sl_int (wrap_up (by omega)), rfl⟩, trivial⟩ ?_⟩
      have e : (eCrowdD (eNodes (freshK k)) (eLetters []) liar 0).set [0, k] (eNode newN) = eCrowdD (eNodes (freshK (k + 1))) (eLetters []) liar 0 := by rw [crowd_set0, nodes_set', freshK_upd]
      with_unfolding_all exact congrArg (fun d => [Ent.var d [([1], 1)], .row 7 []]) e
    · have hk : k = 4 := by have := of_decide_eq_false hb; omega
      subst hk
      refine W.exit ?_
      refine R [] ?_
      refine W.le hc0 (Le.recast 0 (d := eCrowd ⟨freshK 4, [], liar, 0⟩) (d' := eCrowd (newC liar)) (tok := [([1], 1)]) (by with_unfolding_all rfl) (DRle.crowd (DRle.arr fun i hi => ?_)) (fun p y hp => ?_)) ?_
      · have e : freshK 4 i = newN := by unfold freshK; rw [if_pos hi]
        show DRle (eNode (freshK 4 i)) (eNode newN)
        rw [e]; exact .refl _
      · have := List.mem_singleton.1 hp
        simp only [Prod.mk.injEq] at this
        obtain ⟨rfl, rfl⟩ := this
        rfl
      exact W.ret (End 2 (by omega) ⟨rfl, rfl⟩)

set_option maxHeartbeats 4000000 in
set_option maxRecDepth 100000 in
theorem crowdNode_spec (c : CrowdS) (i : Int) (hi : 0 ≤ i ∧ i < 4) (hq : (c.nodes i.toNat).queue.length ≤ 1000000) : Fn Try.prog 13 [.ptr 0 [], .data (I i)] (CE c) (.data (eNode (c.nodes i.toNat))) (CE c) := by
  refine spec_of ttok Try.func13 rfl (by kernel_rfl) (by exact Nat.le_of_ble_eq_true rfl) fun hin hie c0 hc0 he => ?_
  have hn0 : c0.es.length ≤ 2 := Nat.le_of_eq (by rw [he]; rfl)
  refine R [] ?_
  refine W.seq (R [] ?_)
  refine C (fun hb => ?_) (fun hb => ?_)
  · exfalso
    have hb : (bif bif false then true else decide (i < 0) then true else decide (4 ≤ i)) = true := hb
    rw [bif_or, bif_or] at hb
    simp only [Bool.or_eq_true, decide_eq_true_eq, Bool.false_eq_true, false_or] at hb
    omega
  clear hb
  refine W.skip ?_
  refine R [] (ho := by exact ⟨hi, sameNz _ _, trivial⟩) ?_
  refine R [Hint.on [] [.row 1 ((c.nodes i.toNat).queue.map I)] (.row 0 ((c.nodes i.toNat).queue.map I))] (ho := by exact ⟨cloneInts_row _ hq, trivial⟩) ?_
  refine W.ents (es' := CE c ++ [.var (eNodeN Node.zero) [], .var (eNode (c.nodes i.toNat)) [([10], 4)], .row 1 ((c.nodes i.toNat).queue.map I)]) ?_ ?_
  · with_unfolding_all exact congrArg (fun d => CE c ++ [.var (eNodeN Node.zero) [], Ent.var d [([10], 4)], .row 1 ((c.nodes i.toNat).queue.map I)]) (node_set10 (c.nodes i.toNat) (c.nodes i.toNat).queue)
  refine R [] (ho := by exact ⟨sameNz _ _, trivial⟩) ?_
  exact W.ret (End 2 hn0 ⟨rfl, rfl⟩)

set_option maxHeartbeats 4000000 in
set_option maxRecDepth 100000 in
theorem crowdNet_spec (c : CrowdS) (hl : c.net.length ≤ 2000) : Fn Try.prog 17 [.ptr 0 []] (CE c) (.data (eLetters c.net)) (CE c) := by
  refine spec_of ttok Try.func17 rfl (by kernel_rfl) (by exact Nat.le_of_ble_eq_true rfl) fun hin hie c0 hc0 he => ?_
  have hn0 : c0.es.length ≤ 2 := Nat.le_of_eq (by rw [he]; rfl)
  refine R [] ?_
  refine W.seq (R [] ?_)
  refine C (fun hb => ?_) (fun hb => ?_)
  · cases hb
  refine W.skip ?_
  refine R [Hint.on [] [.row 7 (c.net.map eLetter)] (.row 0 (c.net.map eLetter))] (ho := by exact ⟨cloneLetters_row _ hl, trivial⟩) ?_
  exact W.ret (End 2 hn0 ⟨rfl, rfl⟩)

end Go.W

/-
  Package crowd, walked: what is sent, a node's turn.
-/
namespace Go.W
open Go.Proofs

def withNet (c : CrowdS) (net : List Letter) : CrowdS := { c with net := net }
theorem letterD {f : Nat → D} {x : Letter} (h0 : f 0 = I x.to) (h1 : f 1 = eWord x.word) (h2 : ∀ i, f (i + 2) = .nil) : D.agg 2 f = eLetter x := by
  unfold eLetter
  congr 1
  funext i
  match i with
  | 0 => exact h0
  | 1 => exact h1
  | i + 2 => exact h2 i
theorem cptr_words (l : List Word) {k : Nat} (h : k < l.length) : AV.cptr ((l.map eWord).getD k default) = .cptr (eWord (l.getD k Word.zero)) := by
  simp [List.getElem?_eq_getElem h]

theorem sizes_lettersD (l : List Letter) (x : D) (hx : x.size = 7) : ∀ d ∈ l.map eLetter ++ [x], d.size = 7 := by
  intro d hd
  rcases List.mem_append.1 hd with h | h
  · exact sizes_letters l d h
  · rw [List.mem_singleton.1 h]; exact hx
theorem fits_lettersD (l : List Letter) (x : D) (h : l.length ≤ 2000) : (l.map eLetter ++ [x]).length ≤ maxLen ∧ (l.map eLetter ++ [x]).length * 56 ≤ 140737488355328 := by
  rw [List.length_append, List.length_map]
  unfold maxLen
  simp only [List.length_cons, List.length_nil]
  omega

theorem send_ents (c : CrowdS) (N : List Letter) (w : Word) (k : Nat) (X : D) (hX : X = eLetter ⟨k, w⟩) : [Ent.var ((eCrowd (withNet c N)).set [1] (.list (N.map eLetter ++ [X]))) [([1], 1)], .row 7 (N.map eLetter ++ [X]), .var (eWord w) []] = CE (withNet c (N ++ [⟨k, w⟩])) ++ [.var (eWord w) []] := by
  subst hX
  unfold eCrowd
  rw [crowd_set1]
  simp only [withNet, CE, eCrowd, eLetters, List.map_append, List.map_cons, List.map_nil, List.cons_append, List.nil_append]

set_option maxHeartbeats 8000000 in
set_option maxRecDepth 100000 in
theorem send_spec (c : CrowdS) (frm : Int) (l : List Word) (hn : c.net.length ≤ 2000) (hl : l.length ≤ 1000000) : Fn Try.prog 36 [.ptr 0 [], .data (I frm), .data (eWords l)] (CE c)
    (.data (I ((sendL frm l c.net).length - c.net.length))) (CE (withNet c (sendL frm l c.net))) := by
  refine spec_of ttok Try.func36 rfl (by kernel_rfl) (by exact Nat.le_of_ble_eq_true rfl) fun hin hie c0 hc0 he => ?_
  have hn0 : c0.es.length ≤ 2 := Nat.le_of_eq (by rw [he]; rfl)
  refine R [] ?_
  refine R [] ?_
  refine W.seq (R [] ?_)
  refine W.block (W.loop hc0 (ι := Nat) (fun j => ⟨48, frOf [(0, .ptr 0 []), (1, .data (I frm)), (7, .data (I ((sendL frm (l.take j) c.net).length - c.net.length))), (11, .data (eWords l)), (12, .data (I ((l.map eWord).length : Int))), (13, .data (I j))], CE (withNet c (sendL frm (l.take j) c.net))⟩) (fun j => j ≤ l.length) (fun j => l.length - j) 0 (by omega) ?_ ?_)
  · refine Le.cut _ 2 (by omega) ⟨⟨by with_unfolding_all rfl, rfl⟩, ⟨by with_unfolding_all rfl, rfl⟩, ⟨sl_int ?_, rfl⟩, ⟨by with_unfolding_all rfl, rfl⟩, ⟨by with_unfolding_all rfl, rfl⟩, ⟨by with_unfolding_all rfl, rfl⟩, trivial⟩ (by with_unfolding_all rfl)
    simp [sendL]
  · intro j hj
    refine R [] ?_
    refine W.seq (C (fun hb => ?_) (fun hb => ?_))
    · have hj : j < l.length := by have := of_decide_eq_true hb; rw [List.length_map] at this; omega
      clear hb
      have hM := sendL_len frm (l.take j) c.net hn
      have hT := sendL_take frm l c.net hj
      generalize hMM : sendL frm (l.take j) c.net = M at hM hT ⊢
      have hW := sendW_len frm (l.getD j Word.zero) M hM.2
      refine W.skip (W.seq (W.block ?_))
      refine R [.is 15 (.cptr (eWord (l.getD j Word.zero)))] (ho := by exact ⟨cptr_words l hj, ⟨by omega, by rw [List.length_map]; omega⟩, sizes_words l, sameWW _ _, trivial⟩) ?_
      refine R [] ?_
      refine W.block (W.loop hc0 (ι := Nat) (fun k => ⟨48, frOf [(0, .ptr 0 []), (1, .data (I frm)), (7, .data (I ((sendW frm (l.getD j Word.zero) M k).length - c.net.length))), (9, .ptr 2 []), (11, .data (eWords l)), (12, .data (I ((l.map eWord).length : Int))), (13, .data (I j)), (17, .data (I k))], CE (withNet c (sendW frm (l.getD j Word.zero) M k)) ++ [.var (eWord (l.getD j Word.zero)) []]⟩) (fun k => k ≤ 4) (fun k => 4 - k) 0 (by omega) ?_ ?_)
      · exact Le.cut _ 3 (by omega) ⟨⟨by with_unfolding_all rfl, rfl⟩, ⟨by with_unfolding_all rfl, rfl⟩, ⟨by with_unfolding_all rfl, rfl⟩, ⟨by with_unfolding_all rfl, rfl⟩, ⟨by with_unfolding_all rfl, rfl⟩, ⟨by with_unfolding_all rfl, rfl⟩, ⟨by with_unfolding_all rfl, rfl⟩, ⟨by with_unfolding_all rfl, rfl⟩, trivial⟩ (by with_unfolding_all rfl)
      · intro k hk
        have hNN := hW k
        have hS : sendW frm (l.getD j Word.zero) M (k + 1) = if !((k : Int) == frm) && decide ((sendW frm (l.getD j Word.zero) M k).length < 2000) then sendW frm (l.getD j Word.zero) M k ++ [⟨k, l.getD j Word.zero⟩] else sendW frm (l.getD j Word.zero) M k := rfl
        generalize hNNN : sendW frm (l.getD j Word.zero) M k = N at hNN hS ⊢
        refine R [] ?_
        refine W.seq (C (fun hb => ?_) (fun hb => ?_))
        · have hk : k < 4 := by have := of_decide_eq_true hb; omega
          clear hb
          refine W.skip (W.seq (W.block ?_))
          refine R [] ?_
          refine R [] ?_
          refine C (fun hb => ?_) (fun hb => ?_)
          · have hb : (bif !((k : Int) == frm) then decide (((N.map eLetter).length : Int) < 2000) else false) = true := hb
            rw [bif_and, List.length_map] at hb
            simp only [Bool.and_eq_true, decide_eq_true_eq] at hb
            have hlt : N.length < 2000 := by omega
            have e1 : sendW frm (l.getD j Word.zero) M (k + 1) = N ++ [⟨k, l.getD j Word.zero⟩] := by
              rw [hS, if_pos (by rw [hb.1, decide_eq_true hlt]; rfl)]
            refine RF [] 3 [(9, .wr 1), (11, .rd (some 0))] (ho := by with_unfolding_all exact ⟨rfl, sizes_lettersD N _ rfl, fits_lettersD N _ (by omega), trivial⟩) ?_
            refine R1 [] ?_
            refine R1 [] ?_
            refine ⟨k + 1, by omega, by omega, Le.cut _ 3 (by omega) ⟨⟨by with_unfolding_all rfl, rfl⟩, ⟨by with_unfolding_all rfl, rfl⟩, ⟨sl_int ?_, rfl⟩, ⟨by with_unfolding_all rfl, rfl⟩, ⟨by with_unfolding_all rfl, rfl⟩, ⟨by with_unfolding_all rfl, rfl⟩, ⟨by with_unfolding_all rfl, rfl⟩, ⟨sl_int (wrap_up (by omega)), rfl⟩, trivial⟩ ?_⟩
            · rw [e1, i64_wrap (by omega) (by omega), List.length_append]
              simp only [List.length_cons, List.length_nil]
              omega
            · rw [e1]
              with_unfolding_all exact send_ents c N (l.getD j Word.zero) k _ (letterD (x := ⟨k, l.getD j Word.zero⟩) rfl (set_nil _ _) (fun _ => rfl))
          · have hb : (bif !((k : Int) == frm) then decide (((N.map eLetter).length : Int) < 2000) else false) = false := hb
            rw [bif_and, List.length_map] at hb
            have e1 : sendW frm (l.getD j Word.zero) M (k + 1) = N := by
              rw [hS, if_neg]
              intro h
              simp only [Bool.and_eq_true, decide_eq_true_eq] at h
              rw [h.1, decide_eq_true (by omega)] at hb
              cases hb
            refine W.skip ?_
            refine R1 [] ?_
            refine ⟨k + 1, by omega, by omega, Le.cut _ 3 (by omega) ⟨⟨by with_unfolding_all rfl, rfl⟩, ⟨by with_unfolding_all rfl, rfl⟩, ⟨sl_int (by rw [e1]), rfl⟩, ⟨by with_unfolding_all rfl, rfl⟩, ⟨by with_unfolding_all rfl, rfl⟩, ⟨by with_unfolding_all rfl, rfl⟩, ⟨by with_unfolding_all rfl, rfl⟩, ⟨sl_int (wrap_up (by omega)), rfl⟩, trivial⟩ ?_⟩
            rw [e1]
            with_unfolding_all rfl
        · have hk : k = 4 := by have := of_decide_eq_false hb; omega
          subst hk
          refine W.exit ?_
          refine R1 [] ?_
          refine ⟨j + 1, by omega, by omega, Le.cut _ 2 (by omega) ⟨⟨by with_unfolding_all rfl, rfl⟩, ⟨by with_unfolding_all rfl, rfl⟩, ⟨sl_int (by rw [hT, hNNN]), rfl⟩, ⟨by with_unfolding_all rfl, rfl⟩, ⟨by with_unfolding_all rfl, rfl⟩, ⟨sl_int (wrap_up (by omega)), rfl⟩, trivial⟩ ?_⟩
          rw [hT, hNNN]
          with_unfolding_all rfl
    · have hj : j = l.length := by have := of_decide_eq_false hb; rw [List.length_map] at this; omega
      subst hj
      refine W.exit ?_
      refine R [] ?_
      refine W.ret (End 2 (by omega) ⟨?_, ?_⟩)
      · rw [List.take_length]; rfl
      · rw [List.take_length]; rfl

end Go.W

/-
  Package crowd, walked: a node's turn.
-/
namespace Go.W
open Go.Proofs

theorem replyD {f : Nat → D} {r : Reply} (h0 : f 0 = I r.code) (h1 : f 1 = I r.n) (h2 : f 2 = eVotes r.settled) (h3 : ∀ i, f (i + 3) = .nil) : D.agg 3 f = eReply r := by
  unfold eReply
  congr 1
  funext i
  match i with
  | 0 => exact h0
  | 1 => exact h1
  | 2 => exact h2
  | i + 3 => exact h3 i
theorem sameR {f : Nat → D} {r r' : Reply} (h0 : f 0 = I r.code) (h1 : f 1 = I r.n) (h2 : f 2 = eVotes r.settled) (h3 : ∀ i, f (i + 3) = .nil) : Same (eReply r') (.agg 3 f) := by
  rw [replyD h0 h1 h2 h3]
  exact ⟨rfl, fun i hi => by
    match i, hi with
    | 0, _ => trivial
    | 1, _ => trivial
    | 2, _ => exact sameVV _ _⟩
theorem sameRR (r r' : Reply) : Same (eReply r) (eReply r') := ⟨rfl, fun i hi => by
  match i, hi with
  | 0, _ => trivial
  | 1, _ => trivial
  | 2, _ => exact sameVV _ _⟩

set_option maxHeartbeats 8000000 in
set_option maxRecDepth 100000 in
theorem turn_spec (c : CrowdS) (i : Int) (h : FuncId) (d : D) (t : Turn) (hn : c.net.length ≤ 2000) (hl : t.out.length ≤ 1000000)
    (hf : 0 ≤ i ∧ i < 4 → Fn Try.prog h [.data (eNode (c.nodes i.toNat)), .ptr 0 []] [.var d []] (turnAV t) [.var d []]) :
    Fn Try.prog 24 [.ptr 0 [], .data (I i), .func h [.ptr 2 []]] (CE c ++ [.var d []]) (.data (eReply (turnC c i t).2)) (CE (turnC c i t).1 ++ [.var d []]) := by
  refine spec_of ttok Try.func24 rfl (by kernel_rfl) (by exact Nat.le_of_ble_eq_true rfl) fun hin hie c0 hc0 he => ?_
  have hn0 : c0.es.length ≤ 3 := Nat.le_of_eq (by rw [he]; rfl)
  refine R [] ?_
  refine W.seq (R [] ?_)
  refine C (fun hb => ?_) (fun hb => ?_)
  · have hi : i < 0 ∨ 4 ≤ i := by
      rw [bif_or] at hb
      simpa only [Bool.or_eq_true, decide_eq_true_eq] using hb
    have e : turnC c i t = (c, errR 2) := by unfold turnC; rw [if_pos hi]
    refine R [] (ho := by with_unfolding_all exact ⟨sameR (r := errR 2) rfl rfl rfl (fun _ => rfl), trivial⟩) ?_
    refine W.ret (End 3 hn0 ⟨?_, ?_⟩)
    · rw [e]; with_unfolding_all exact congrArg AV.data (replyD (r := errR 2) rfl rfl rfl (fun _ => rfl))
    · rw [e]; rfl
  have hi : 0 ≤ i ∧ i < 4 := by
    rw [bif_or] at hb
    simp only [Bool.or_eq_false_iff, decide_eq_false_iff_not] at hb
    omega
  have hi' : ¬ (i < 0 ∨ 4 ≤ i) := by omega
  clear hb
  refine W.skip ?_
  refine R [Hint.on [2] [.var d []] (turnAV t)] (ho := by exact ⟨hi, hf hi, sameNz _ _, trivial⟩) ?_
  refine W.seq (R [] ?_)
  refine C (fun hb => ?_) (fun hb => ?_)
  · have ht : t.err ≠ 0 := by simpa using hb
    have e : turnC c i t = (c, errR t.err) := by unfold turnC; rw [if_neg hi', if_pos ht]
    refine R [] (ho := by with_unfolding_all exact ⟨sameR (r := errR t.err) rfl rfl rfl (fun _ => rfl), trivial⟩) ?_
    refine W.ret (End 3 hn0 ⟨?_, ?_⟩)
    · rw [e]; with_unfolding_all exact congrArg AV.data (replyD (r := errR t.err) rfl rfl rfl (fun _ => rfl))
    · rw [e]; rfl
  have ht : ¬ t.err ≠ 0 := by simpa using hb
  clear hb
  have e : turnC c i t = ({ c with nodes := upd c.nodes i.toNat t.s, net := sendL i t.out c.net }, sentR ((sendL i t.out c.net).length - c.net.length)) := by unfold turnC; rw [if_neg hi', if_neg ht]
  refine W.skip ?_
  refine RD [] (ho := by exact ⟨hi, sameNN _ _, trivial⟩) ?_
  have hset : (eCrowd c).set [0, i.toNat] (eNode t.s) = eCrowd { c with nodes := upd c.nodes i.toNat t.s } := by
    unfold eCrowd; rw [crowd_set0, nodes_set']
  refine W.ents (es' := CE { c with nodes := upd c.nodes i.toNat t.s } ++ [.var d [], .var (eReply Reply.zero) [], .var (eNode t.s) []]) ?_ ?_
  · with_unfolding_all exact congrArg (fun x => [Ent.var x [([1], 1)], .row 7 (c.net.map eLetter), .var d [], .var (eReply Reply.zero) [], .var (eNode t.s) []]) hset
  refine R [Hint.on [0, 1] (CE { c with nodes := upd c.nodes i.toNat t.s, net := sendL i t.out c.net }) (.data (I ((sendL i t.out c.net).length - c.net.length)))]
    (ho := by with_unfolding_all exact ⟨send_spec { c with nodes := upd c.nodes i.toNat t.s } i t.out hn hl, sameR (r := sentR ((sendL i t.out c.net).length - c.net.length)) rfl rfl rfl (fun _ => rfl), trivial⟩) ?_
  refine W.ret (End 3 hn0 ⟨?_, ?_⟩)
  · rw [e]; with_unfolding_all exact congrArg AV.data (replyD (r := sentR ((sendL i t.out c.net).length - c.net.length)) rfl rfl rfl (fun _ => rfl))
  · rw [e]; rfl

/-! ### What a turn does -/

theorem do1_spec (x : Int) : Pure Try.prog 23 [.data (I x)] (.data (eReply (errR x))) := by
  refine spec_of ttok Try.func23 rfl (by kernel_rfl) (by exact Nat.le_of_ble_eq_true rfl) fun hin hie c0 hc0 he => ?_
  have hn0 : c0.es.length ≤ 0 := Nat.le_of_eq (by rw [he]; rfl)
  refine R [] ?_
  refine R [] (ho := by with_unfolding_all exact ⟨sameR (r := errR x) rfl rfl rfl (fun _ => rfl), trivial⟩) ?_
  refine W.ret (End 0 hn0 ⟨?_, rfl⟩)
  with_unfolding_all exact congrArg AV.data (replyD (r := errR x) rfl rfl rfl (fun _ => rfl))

set_option maxHeartbeats 4000000 in
set_option maxRecDepth 100000 in
theorem do2_spec (s : Node) (a : Act) : Fn Try.prog 25 [.data (eNode s), .ptr 0 []] [.var (eAct a) []] (turnAV (submitT s a.node a.value)) [.var (eAct a) []] := by
  refine spec_of ttok Try.func25 rfl (by kernel_rfl) (by exact Nat.le_of_ble_eq_true rfl) fun hin hie c0 hc0 he => ?_
  have hn0 : c0.es.length ≤ 1 := Nat.le_of_eq (by rw [he]; rfl)
  have hs := submitT_spec s a.node a.value
  generalize submitT s a.node a.value = t at hs ⊢
  refine R [] ?_
  refine R [.tuple [.data (eNode t.s), .data (eWords t.out), .data (I t.err)]] (ho := by exact ⟨hs, sameNz _ _, trivial⟩) ?_
  exact W.ret (End 1 hn0 ⟨rfl, rfl⟩)

set_option maxHeartbeats 4000000 in
set_option maxRecDepth 100000 in
theorem do3_spec (s : Node) (a : Act) : Fn Try.prog 27 [.data (eNode s), .ptr 0 []] [.var (eAct a) []] (turnAV (timeT s a.node)) [.var (eAct a) []] := by
  refine spec_of ttok Try.func27 rfl (by kernel_rfl) (by exact Nat.le_of_ble_eq_true rfl) fun hin hie c0 hc0 he => ?_
  have hn0 : c0.es.length ≤ 1 := Nat.le_of_eq (by rw [he]; rfl)
  have hs := timeT_spec s a.node
  generalize timeT s a.node = t at hs ⊢
  refine R [] ?_
  refine R [.tuple [.data (eNode t.s), .data (eWords t.out), .data (I t.err)]] (ho := by exact ⟨hs, sameNz _ _, trivial⟩) ?_
  exact W.ret (End 1 hn0 ⟨rfl, rfl⟩)

set_option maxHeartbeats 4000000 in
set_option maxRecDepth 100000 in
theorem do4_spec (s : Node) (x : Letter) : Fn Try.prog 31 [.data (eNode s), .ptr 0 []] [.var (eLetter x) []] (turnAV (hearT s x.to x.word)) [.var (eLetter x) []] := by
  refine spec_of ttok Try.func31 rfl (by kernel_rfl) (by exact Nat.le_of_ble_eq_true rfl) fun hin hie c0 hc0 he => ?_
  have hn0 : c0.es.length ≤ 1 := Nat.le_of_eq (by rw [he]; rfl)
  have hs := hearT_spec s x.to x.word
  generalize hearT s x.to x.word = t at hs ⊢
  refine R [] ?_
  refine R [.tuple [.data (eNode t.s), .data (eWords t.out), .data (I t.err)]] (ho := by exact ⟨hs, sameNz _ _, trivial⟩) ?_
  exact W.ret (End 1 hn0 ⟨rfl, rfl⟩)

set_option maxHeartbeats 4000000 in
set_option maxRecDepth 100000 in
theorem do5_spec (s : Node) (a : Act) : Fn Try.prog 34 [.data (eNode s), .ptr 0 []] [.var (eAct a) []] (turnAV (hearT s a.node a.word)) [.var (eAct a) []] := by
  refine spec_of ttok Try.func34 rfl (by kernel_rfl) (by exact Nat.le_of_ble_eq_true rfl) fun hin hie c0 hc0 he => ?_
  have hn0 : c0.es.length ≤ 1 := Nat.le_of_eq (by rw [he]; rfl)
  have hs := hearT_spec s a.node a.word
  generalize hearT s a.node a.word = t at hs ⊢
  refine R [] ?_
  refine R [.tuple [.data (eNode t.s), .data (eWords t.out), .data (I t.err)]] (ho := by exact ⟨hs, sameNz _ _, trivial⟩) ?_
  exact W.ret (End 1 hn0 ⟨rfl, rfl⟩)

end Go.W

/-
  Package crowd, walked: an act.
-/
namespace Go.W
open Go.Proofs

/-- A letter goes. -/
def drops (c : CrowdS) (a : Act) : Prop := c.acts < 600 ∧ a.kind = 3 ∧ 0 ≤ a.n ∧ a.n < c.net.length
theorem inner_set (v : Nat → Nat → Int) (k : Nat) (x : Nat → Int) : (eInts44 v).set [k] (eVotes x) = eInts44 (upd v k x) := by
  simp only [eInts44, D.set, set_nil, upd]
  congr 1
  funext j
  exact bif_map eVotes _ _ _
/-- What the first i tell. -/
def toldTo (c : CrowdS) (a : Act) (i : Nat) : Nat → Nat → Int := fun k => if k < i then toldC c a k else fun _ => 0
theorem toldTo_upd (c : CrowdS) (a : Act) (i : Nat) : upd (toldTo c a i) i (toldC c a i) = toldTo c a (i + 1) := by
  funext k
  by_cases e : k = i
  · subst e; rw [upd_same]; unfold toldTo; rw [if_pos (by omega)]
  · rw [upd_other _ _ e]; unfold toldTo
    by_cases h : k < i
    · rw [if_pos h, if_pos (by omega)]
    · rw [if_neg h, if_neg (by omega)]
theorem takeV_told (c : CrowdS) (a : Act) : takeV (toldTo c a 4) = takeV (toldC c a) := by
  have hc : ∀ h v k, k ≤ 4 → cntH (toldTo c a 4) h v k = cntH (toldC c a) h v k := by
    intro h v k
    induction k with
    | zero => intro _; rfl
    | succ k ih =>
      intro hk
      simp only [cntH]
      rw [ih (by omega), show toldTo c a 4 k = toldC c a k from by unfold toldTo; rw [if_pos (by omega)]]
  have hl : ∀ h k, leastH (toldTo c a 4) h k = leastH (toldC c a) h k := by
    intro h k
    induction k with
    | zero => rfl
    | succ k ih => simp only [leastH]; rw [ih, hc _ _ 4 (by omega)]
  have hp : ∀ h, pickH (toldTo c a 4) h = pickH (toldC c a) h := fun h => hl h 9
  have ha : ∀ h, pickAll (toldTo c a 4) h = pickAll (toldC c a) h := by
    intro h
    induction h with
    | zero => rfl
    | succ h ih => simp only [pickAll]; rw [ih, hp]
  funext h
  unfold takeV
  rw [ha, hp]

instance (c : CrowdS) (a : Act) : Decidable (drops c a) := inferInstanceAs (Decidable (_ ∧ _ ∧ _ ∧ _))
/-- What stands there behind an act: where a letter goes the letters are a row anew. -/
def DE (c : CrowdS) (a : Act) : List Ent :=
  if drops c a then [.var (eCrowd (doC c a).1) [([1], 2)], .row 7 (c.net.map eLetter), .row 7 ((doC c a).1.net.map eLetter)] else CE (doC c a).1

theorem DE_no {c : CrowdS} {a : Act} (h : ¬ drops c a) : DE c a = CE (doC c a).1 := if_neg h
theorem doC_on {c : CrowdS} {a : Act} (h : ¬ 600 ≤ c.acts) : doC c a = actC c.tick a := if_neg h
theorem sameLt (a b : Letter) : Same (eLetter a) (eLetter b) := sameLL a b

theorem own_letters (l : List Letter) : (lst (ownL l) 0 l.length) = l.map eLetter := lst_ownL l

set_option maxHeartbeats 16000000 in
set_option maxRecDepth 100000 in
theorem do_spec (c : CrowdS) (a : Act) (hn : c.net.length ≤ 2000) (hac : 0 ≤ c.acts ∧ c.acts ≤ 600) :
    Fn Try.prog 16 [.ptr 0 [], .data (eAct a)] (CE c) (.data (eReply (doC c a).2)) (DE c a) := by
  refine spec_of ttok Try.func16 rfl (by kernel_rfl) (by exact Nat.le_of_ble_eq_true rfl) fun hin hie c0 hc0 he => ?_
  have hn0 : c0.es.length ≤ 2 := Nat.le_of_eq (by rw [he]; rfl)
  refine R [] ?_
  refine R [] ?_
  refine W.seq (W.block (R [] ?_))
  refine C (fun hb => ?_) (fun hb => ?_)
  · cases hb
  clear hb
  refine R [] ?_
  refine C (fun hb => ?_) (fun hb => ?_)
  · have h6 : 600 ≤ c.acts := of_decide_eq_true hb
    have e : doC c a = (c, errR 5) := if_pos h6
    have hd : ¬ drops c a := fun h => by have := h.1; omega
    refine R [.data (eReply (errR 5))] (ho := by exact ⟨do1_spec _, sameRR _ _, trivial⟩) ?_
    refine W.ret (End 2 hn0 ⟨?_, ?_⟩)
    · rw [e]; rfl
    · rw [DE_no hd, e]; rfl
  have h6 : ¬ 600 ≤ c.acts := of_decide_eq_false hb
  clear hb
  have hon := doC_on (a := a) h6
  refine W.skip ?_
  refine R [] ?_
  have hset : (eCrowd c).set [3] (I (IntKind.i64.wrap (c.acts + 1))) = eCrowd c.tick := by
    unfold eCrowd
    rw [crowd_set3, i64_wrap (by omega) (by omega)]; rfl
  refine W.ents (es' := CE c.tick ++ [.var (eAct a) [], .var (eReply Reply.zero) []]) ?_ ?_
  · with_unfolding_all exact congrArg (fun x => [Ent.var x [([1], 1)], .row 7 (c.net.map eLetter), .var (eAct a) [], .var (eReply Reply.zero) []]) hset
  have hnt : c.tick.net.length ≤ 2000 := hn
  have hdr : drops c a ↔ a.kind = 3 ∧ 0 ≤ a.n ∧ a.n < c.tick.net.length := ⟨fun h => h.2, fun h => ⟨by omega, h⟩⟩
  generalize hDE : DE c a = de
  rw [hon]
  have hDE' : ¬ drops c a → CE (actC c.tick a).1 = de := fun h => by rw [← hDE, DE_no h, hon]
  have hDEd : drops c a → [.var (eCrowd (actC c.tick a).1) [([1], 2)], .row 7 (c.tick.net.map eLetter), .row 7 ((actC c.tick a).1.net.map eLetter)] = de := fun h => by rw [← hDE, DE, if_pos h, hon]; rfl
  clear hDE hset
  generalize c.tick = T at *
  refine W.seq (R [] ?_)
  refine W.block (R [] ?_)
  refine C (fun hb => ?_) (fun hb => ?_)
  · have hk : a.kind = 1 := by simpa using hb
    have e : actC T a = Act.submit T a := by unfold actC; rw [if_pos hk]
    have hd : ¬ drops c a := fun h => by have := h.2.1; omega
    rw [e] at hDE' ⊢
    refine R [Hint.on [0, 1, 2] (CE (Act.submit T a).1 ++ [.var (eAct a) []]) (.data (eReply (Act.submit T a).2))]
      (ho := by exact ⟨turn_spec T a.node _ (eAct a) _ hnt (Nat.le_trans (submitT_len _ _ _) (by omega)) fun _ => do2_spec _ a, sameRR _ _, trivial⟩) ?_
    refine W.ret (End 2 hn0 ⟨rfl, ?_⟩)
    rw [← hDE' hd]; rfl
  have hk1 : a.kind ≠ 1 := by simpa using hb
  clear hb
  refine R [] ?_
  refine C (fun hb => ?_) (fun hb => ?_)
  · have hk : a.kind = 4 := by simpa using hb
    have e : actC T a = Act.time T a := by unfold actC; rw [if_neg hk1, if_pos hk]
    have hd : ¬ drops c a := fun h => by have := h.2.1; omega
    rw [e] at hDE' ⊢
    refine R [Hint.on [0, 1, 2] (CE (Act.time T a).1 ++ [.var (eAct a) []]) (.data (eReply (Act.time T a).2))]
      (ho := by exact ⟨turn_spec T a.node _ (eAct a) _ hnt (Nat.le_trans (timeT_len _ _) (by omega)) fun _ => do3_spec _ a, sameRR _ _, trivial⟩) ?_
    refine W.ret (End 2 hn0 ⟨rfl, ?_⟩)
    rw [← hDE' hd]; rfl
  have hk4 : a.kind ≠ 4 := by simpa using hb
  clear hb
  refine W.seq (R [] ?_)
  refine C (fun hb => ?za) (fun hb => ?zb)
  case' za =>
    have h23 : a.kind = 2 ∨ a.kind = 3 := .inl (by simpa using hb)
    refine W.skip ?_
    refine C (fun _ => ?za1) (fun hb2 => ?za2)
    case za2 => exact absurd (hb.symm.trans hb2) (by simp)
    case' za1 =>
    clear hb
    refine W.le hc0 (Le.cut [(0, .ptr 0 []), (3, .ptr 2 []), (4, .ptr 3 []), (5, .func 23 []), (31, .data (I a.kind))] 4 (by omega) (es' := CE T ++ [.var (eAct a) [], .var (eReply Reply.zero) []]) ⟨⟨by with_unfolding_all rfl, rfl⟩, ⟨by with_unfolding_all rfl, rfl⟩, ⟨by with_unfolding_all rfl, rfl⟩, ⟨by with_unfolding_all rfl, rfl⟩, ⟨by with_unfolding_all rfl, rfl⟩, trivial⟩ (by with_unfolding_all rfl)) ?zx1
  case' zb =>
    have hk2 : a.kind ≠ 2 := by simpa using hb
    clear hb
    refine R1 [] ?_
    refine C (fun hb => ?zb1) (fun hb => ?zb2)
    case' zb1 =>
    have h23 : a.kind = 2 ∨ a.kind = 3 := .inr (by simpa using hb)
    clear hb hk2
    refine W.le hc0 (Le.cut [(0, .ptr 0 []), (3, .ptr 2 []), (4, .ptr 3 []), (5, .func 23 []), (31, .data (I a.kind))] 4 (by omega) (es' := CE T ++ [.var (eAct a) [], .var (eReply Reply.zero) []]) ⟨⟨by with_unfolding_all rfl, rfl⟩, ⟨by with_unfolding_all rfl, rfl⟩, ⟨by with_unfolding_all rfl, rfl⟩, ⟨by with_unfolding_all rfl, rfl⟩, ⟨by with_unfolding_all rfl, rfl⟩, trivial⟩ (by with_unfolding_all rfl)) ?zx2
  case zb2 =>
    have hk3 : a.kind ≠ 3 := by simpa using hb
    have h23 : ¬ (a.kind = 2 ∨ a.kind = 3) := by omega
    have hd : ¬ drops c a := fun h => hk3 h.2.1
    clear hb hk2 hk3
    refine R [] ?_
    refine C (fun hb => ?_) (fun hb => ?_)
    · have hk : a.kind = 5 := by simpa using hb
      have e0 : actC T a = (if goodW a.word ≠ 0 then (T, errR (goodW a.word)) else if a.word.frm ≠ T.liar then (T, errR 6) else Act.lie T a) := by unfold actC; rw [if_neg hk1, if_neg hk4, if_neg h23, if_pos hk]
      clear hb
      refine W.seq (R [.data (I (goodW a.word))] (ho := by exact ⟨good_spec _, trivial⟩) ?_)
      refine R [] ?_
      refine C (fun hb => ?_) (fun hb => ?_)
      · have hg : goodW a.word ≠ 0 := by simpa using hb
        rw [if_pos hg] at e0
        rw [e0] at hDE' ⊢
        refine R [.data (eReply (errR (goodW a.word)))] (ho := by exact ⟨do1_spec _, sameRR _ _, trivial⟩) ?_
        refine W.ret (End 2 hn0 ⟨rfl, ?_⟩)
        rw [← hDE' hd]; rfl
      have hg : ¬ goodW a.word ≠ 0 := by simpa using hb
      clear hb
      rw [if_neg hg] at e0
      refine W.skip ?_
      refine W.seq (RD [] ?_)
      refine C (fun hb => ?_) (fun hb => ?_)
      · have hf : a.word.frm ≠ T.liar := by simpa using hb
        rw [if_pos hf] at e0
        rw [e0] at hDE' ⊢
        refine R [.data (eReply (errR 6))] (ho := by exact ⟨do1_spec _, sameRR _ _, trivial⟩) ?_
        refine W.ret (End 2 hn0 ⟨rfl, ?_⟩)
        rw [← hDE' hd]; rfl
      have hf : ¬ a.word.frm ≠ T.liar := by simpa using hb
      clear hb
      rw [if_neg hf] at e0
      rw [e0] at hDE' ⊢
      refine W.skip ?_
      refine R [Hint.on [0, 1, 2] (CE (Act.lie T a).1 ++ [.var (eAct a) []]) (.data (eReply (Act.lie T a).2))]
        (ho := by exact ⟨turn_spec T a.node _ (eAct a) _ hnt (Nat.le_trans (hearT_len _ _ _) (by omega)) fun _ => do5_spec _ a, sameRR _ _, trivial⟩) ?_
      refine W.ret (End 2 hn0 ⟨rfl, ?_⟩)
      rw [← hDE' hd]; rfl
    have hk5 : a.kind ≠ 5 := by simpa using hb
    clear hb
    refine R [] ?_
    refine C (fun hb => ?_) (fun hb => ?_)
    · have hk : a.kind = 6 := by simpa using hb
      have e : actC T a = (T, Act.read T a) := by unfold actC; rw [if_neg hk1, if_neg hk4, if_neg h23, if_neg hk5, if_pos hk]
      rw [e] at hDE' ⊢
      clear hb
      refine R [] ?_
      refine W.seq (R [] ?_)
      refine W.block (W.loop hc0 (ι := Nat) (fun i => ⟨156, frOf [(0, .ptr 0 []), (3, .ptr 2 []), (4, .ptr 3 []), (8, .ptr 4 []), (123, .data (I i))], CE T ++ [.var (eAct a) [], .var (eReply Reply.zero) [], .var (eInts44 (toldTo T a i)) []]⟩) (fun i => i ≤ 4) (fun i => 4 - i) 0 (by omega) ?_ ?_)
      · refine Le.cut _ 5 (by omega) ⟨⟨by with_unfolding_all rfl, rfl⟩, ⟨by with_unfolding_all rfl, rfl⟩, ⟨by with_unfolding_all rfl, rfl⟩, ⟨by with_unfolding_all rfl, rfl⟩, ⟨by with_unfolding_all rfl, rfl⟩, trivial⟩ ?_
        have e0 : toldTo T a 0 = fun _ _ => 0 := by funext k j; unfold toldTo; rw [if_neg (by omega)]
        rw [e0]
        with_unfolding_all rfl
      · intro i hi
        refine R [] ?_
        refine W.seq (C (fun hb => ?_) (fun hb => ?_))
        · have hi : i < 4 := by have := of_decide_eq_true hb; omega
          have hii : (0 : Int) ≤ i ∧ (i : Int) < 4 := by omega
          clear hb
          refine W.skip (W.seq (W.block ?_))
          refine R [] ?_
          refine R [] (ho := by exact ⟨hii, hii, sameVV _ _, trivial⟩) ?_
          refine W.ents (es' := CE T ++ [.var (eAct a) [], .var (eReply Reply.zero) [], .var (eInts44 (upd (toldTo T a i) i (T.nodes i).settled)) []]) ?_ ?_
          · rw [← inner_set]
            with_unfolding_all rfl
          refine R [] ?_
          refine C (fun hb => ?_) (fun hb => ?_)
          · have hb : (bif ((i : Int) == T.liar) then !(a.n == 0) else false) = true := hb
            rw [bif_and] at hb
            have et : toldC T a i = a.tell := by unfold toldC; rw [if_pos hb]
            refine R1 [] (ho := by exact ⟨hii, sameVV _ _, trivial⟩) ?_
            refine R1 [] ?_
            refine ⟨i + 1, by omega, by omega, Le.cut _ 5 (by omega) ⟨⟨by with_unfolding_all rfl, rfl⟩, ⟨by with_unfolding_all rfl, rfl⟩, ⟨by with_unfolding_all rfl, rfl⟩, ⟨by with_unfolding_all rfl, rfl⟩, ⟨sl_int (wrap_up (by omega)), rfl⟩, trivial⟩ ?_⟩
            rw [← toldTo_upd, et]
            have := inner_set (upd (toldTo T a i) i (T.nodes i).settled) i a.tell
            rw [upd_upd] at this
            rw [← this]
            with_unfolding_all rfl
          · have hb : (bif ((i : Int) == T.liar) then !(a.n == 0) else false) = false := hb
            rw [bif_and] at hb
            have et : toldC T a i = (T.nodes i).settled := by unfold toldC; rw [if_neg (by rw [hb]; exact Bool.false_ne_true)]
            refine W.skip ?_
            refine R1 [] ?_
            refine ⟨i + 1, by omega, by omega, Le.cut _ 5 (by omega) ⟨⟨by with_unfolding_all rfl, rfl⟩, ⟨by with_unfolding_all rfl, rfl⟩, ⟨by with_unfolding_all rfl, rfl⟩, ⟨by with_unfolding_all rfl, rfl⟩, ⟨sl_int (wrap_up (by omega)), rfl⟩, trivial⟩ ?_⟩
            rw [← toldTo_upd, et]
            with_unfolding_all rfl
        · have hi : i = 4 := by have := of_decide_eq_false hb; omega
          subst hi
          refine W.exit ?_
          refine R [.data (eVotes (takeV (toldTo T a 4)))] (ho := by with_unfolding_all exact ⟨take_spec _, sameR (r := Act.read T a) rfl rfl (congrArg eVotes (takeV_told T a)) (fun _ => rfl), trivial⟩) ?_
          refine W.ret (End 2 hn0 ⟨?_, ?_⟩)
          · with_unfolding_all exact congrArg AV.data (replyD (r := Act.read T a) rfl rfl (congrArg eVotes (takeV_told T a)) (fun _ => rfl))
          · rw [← hDE' hd]; rfl
    · have hk6 : a.kind ≠ 6 := by simpa using hb
      have e : actC T a = (T, errR 3) := by unfold actC; rw [if_neg hk1, if_neg hk4, if_neg h23, if_neg hk5, if_neg hk6]
      rw [e] at hDE' ⊢
      refine W.skip ?_
      refine R [.data (eReply (errR 3))] (ho := by exact ⟨do1_spec _, sameRR _ _, trivial⟩) ?_
      refine W.ret (End 2 hn0 ⟨rfl, ?_⟩)
      rw [← hDE' hd]; rfl
  all_goals
    have e0 : actC T a = (if a.n < 0 ∨ (T.net.length : Int) ≤ a.n then (T, errR 4)
     else if a.kind = 3 then ({ T with net := T.net.eraseIdx a.n.toNat }, errR 0)
     else Act.deliver T (T.net.getD a.n.toNat Letter.zero)) := by unfold actC; rw [if_neg hk1, if_neg hk4, if_pos h23]
    refine W.seq (RD [] ?_)
    refine C (fun hb => ?_) (fun hb => ?_)
    · have hr : a.n < 0 ∨ (T.net.length : Int) ≤ a.n := by
        have hb : (bif decide (a.n < 0) then true else decide (((T.net.map eLetter).length : Int) ≤ a.n)) = true := hb
        rw [bif_or, List.length_map] at hb
        simpa only [Bool.or_eq_true, decide_eq_true_eq] using hb
      have e : actC T a = (T, errR 4) := by rw [e0, if_pos hr]
      have hd : ¬ drops c a := fun h => by have := hdr.1 h; omega
      rw [e] at hDE' ⊢
      refine R [.data (eReply (errR 4))] (ho := by exact ⟨do1_spec _, sameRR _ _, trivial⟩) ?_
      refine W.ret (End 2 hn0 ⟨rfl, ?_⟩)
      rw [← hDE' hd]; rfl
    have hr : 0 ≤ a.n ∧ a.n < T.net.length := by
      have hb : (bif decide (a.n < 0) then true else decide (((T.net.map eLetter).length : Int) ≤ a.n)) = false := hb
      rw [bif_or, List.length_map] at hb
      simp only [Bool.or_eq_false_iff, decide_eq_false_iff_not] at hb
      omega
    clear hb
    rw [if_neg (by omega)] at e0
    have hlt : a.n.toNat < T.net.length := by omega
    refine W.skip ?_
    refine RD [.is 70 (.cptr (eLetter (T.net.getD a.n.toNat Letter.zero)))] (ho := by exact ⟨cptr_letters _ hlt, ⟨hr.1, by rw [List.length_map]; omega⟩, sizes_letters _, sameLL _ _, trivial⟩) ?_
    refine W.seq (R [] ?_)
    refine C (fun hb => ?_) (fun hb => ?_)
    · have hk : a.kind = 3 := by simpa using hb
      rw [if_pos hk] at e0
      have hd : drops c a := hdr.2 ⟨hk, hr⟩
      have hdel : ∀ x y : Int, x = (a.n.toNat : Int) → y = ((a.n.toNat + 1 : Nat) : Int) → Fn Try.prog 29 [.sl 0 0 T.net.length T.net.length, .data (I x), .data (I y)] [.var (.arr T.net.length 7 (ownL T.net)) []]
          (.sl 0 0 (T.net.eraseIdx a.n.toNat).length T.net.length) [.var (.arr T.net.length 7 (ownL (T.net.eraseIdx a.n.toNat))) []] := fun x y hx hy => by
        rw [hx, hy]; exact deleteLetters_spec T.net a.n.toNat hlt hnt
      have hne : T.net ≠ [] := fun h => by rw [h] at hlt; simp at hlt
      rw [e0] at hDEd ⊢
      refine RF [Hint.on [] [.var (.arr T.net.length 7 (ownL T.net)) []] (.sl 0 0 T.net.length T.net.length), Hint.on [5] [.var (.arr T.net.length 7 (ownL (T.net.eraseIdx a.n.toNat))) []] (.sl 0 0 (T.net.eraseIdx a.n.toNat).length T.net.length)] 5 [(5, .on []), (6, .rd (some 2)), (7, .rd (some 2)), (8, .rd (some 2)), (9, .rd (some 2))]
        (ho := by exact ⟨cloneLetters_own _ hne hnt, hdel _ _ (by omega) (by rw [i64_wrap (by omega) (by omega)]; omega), by omega, trivial⟩) ?_
      refine R [.data (eReply (errR 0))] (ho := by exact ⟨do1_spec _, sameRR _ _, trivial⟩) ?_
      refine W.ret (EndM [0, 1, 5] (fun i hi => ?_) ⟨rfl, ?_⟩)
      · match i, hi with
        | 0, _ => rfl
        | 1, _ => rfl
        | i + 2, h => omega
      · rw [← hDEd hd]
        have e1 := own_letters (T.net.eraseIdx a.n.toNat)
        have e2 : (eCrowd T).set [1] (.list ((T.net.eraseIdx a.n.toNat).map eLetter)) = eCrowd { T with net := T.net.eraseIdx a.n.toNat } := by
          unfold eCrowd; rw [crowd_set1]; rfl
        have key : [Ent.var ((eCrowd T).set [1] (.list (lst (ownL (T.net.eraseIdx a.n.toNat)) 0 (T.net.eraseIdx a.n.toNat).length))) [([1], 2)], .row 7 (T.net.map eLetter), .row 7 (lst (ownL (T.net.eraseIdx a.n.toNat)) 0 (T.net.eraseIdx a.n.toNat).length)] =
            [.var (eCrowd { T with net := T.net.eraseIdx a.n.toNat }) [([1], 2)], .row 7 (T.net.map eLetter), .row 7 ((T.net.eraseIdx a.n.toNat).map eLetter)] := by rw [e1, e2]
        clear e1 e2 hDEd hDE'
        refine Eq.trans ?_ key
        refine congr (congrArg List.cons ?_) (congr (congrArg List.cons ?_) (congr (congrArg List.cons ?_) rfl))
        · with_unfolding_all rfl
        · with_unfolding_all rfl
        · with_unfolding_all rfl
    · have hk : a.kind ≠ 3 := by simpa using hb
      rw [if_neg hk] at e0
      have hd : ¬ drops c a := fun h => hk h.2.1
      generalize T.net.getD a.n.toNat Letter.zero = x at *
      rw [e0] at hDE' ⊢
      refine W.skip ?_
      refine R [Hint.on [0, 1, 4] (CE (Act.deliver T x).1 ++ [.var (eLetter x) []]) (.data (eReply (Act.deliver T x).2))]
        (ho := by exact ⟨turn_spec T x.to _ (eLetter x) _ hnt (Nat.le_trans (hearT_len _ _ _) (by omega)) fun _ => do4_spec _ x, sameRR _ _, trivial⟩) ?_
      refine W.ret (End 2 hn0 ⟨rfl, ?_⟩)
      rw [← hDE' hd]; rfl

end Go.W

/-
  What the laws of crowds ask besides: an act, by its two ends; whether a crowd answers at all.
-/
namespace Go.W
open Go.Proofs

theorem DE_yes {c : CrowdS} {a : Act} (h : drops c a) : DE c a = [.var (eCrowd (doC c a).1) [([1], 2)], .row 7 (c.net.map eLetter), .row 7 ((doC c a).1.net.map eLetter)] := if_pos h
theorem do_no {c : CrowdS} {a : Act} (hn : c.net.length ≤ 2000) (hac : 0 ≤ c.acts ∧ c.acts ≤ 600) (h : ¬ drops c a) : Fn Try.prog 16 [.ptr 0 [], .data (eAct a)] (CE c) (.data (eReply (doC c a).2)) (CE (doC c a).1) := by
  have := do_spec c a hn hac
  rwa [DE_no h] at this
theorem do_drop {c : CrowdS} {a : Act} (hn : c.net.length ≤ 2000) (hac : 0 ≤ c.acts ∧ c.acts ≤ 600) (h : drops c a) : Fn Try.prog 16 [.ptr 0 [], .data (eAct a)] (CE c) (.data (eReply (doC c a).2))
    [.var (eCrowd (doC c a).1) [([1], 2)], .row 7 (c.net.map eLetter), .row 7 ((doC c a).1.net.map eLetter)] := by
  have := do_spec c a hn hac
  rwa [DE_yes h] at this

theorem actD {f : Nat → D} {a : Act} (h0 : f 0 = I a.kind) (h1 : f 1 = I a.node) (h2 : f 2 = I a.n) (h3 : f 3 = I a.value) (h4 : f 4 = eWord a.word) (h5 : f 5 = eVotes a.tell) (h6 : ∀ i, f (i + 6) = .nil) : D.agg 6 f = eAct a := by
  unfold eAct
  congr 1
  funext i
  match i with
  | 0 => exact h0
  | 1 => exact h1
  | 2 => exact h2
  | 3 => exact h3
  | 4 => exact h4
  | 5 => exact h5
  | i + 6 => exact h6 i
theorem fn_act {P : Program} {f : FuncId} {p r : AV} {es es1 : List Ent} {d d' : D} (h : Fn P f [p, .data d'] es r es1) (e : d = d') : Fn P f [p, .data d] es r es1 := by subst e; exact h

/-- An act that is submitted: 7. -/
def a0 : Act := ⟨1, 0, 0, 7, .zero, fun _ => 0⟩
theorem alive_fact : ∃ c s, doC (newC (-1)) a0 = (c, ⟨0, 6, s⟩) ∧ c.net.length = 6 ∧ (c.nodes 0).step = 1 ∧ (c.nodes 0).queue.length ≤ 1000000 := by
  have h1 : (doC (newC (-1)) a0).2.code = 0 := by decide +kernel
  have h2 : (doC (newC (-1)) a0).2.n = 6 := by decide +kernel
  have h3 : (doC (newC (-1)) a0).1.net.length = 6 := by decide +kernel
  have h4 : ((doC (newC (-1)) a0).1.nodes 0).step = 1 := by decide +kernel
  have h5 : ((doC (newC (-1)) a0).1.nodes 0).queue.length = 1 := by decide +kernel
  generalize doC (newC (-1)) a0 = x at h1 h2 h3 h4 h5
  obtain ⟨c, code, n, s⟩ := x
  simp only at h1 h2 h3 h4 h5
  subst h1; subst h2
  exact ⟨c, s, rfl, h3, h4, by omega⟩
theorem bifh2 {a b : Bool} (h1 : a = true) (h2 : b = true) : (bif a then b else false) = true := by subst h1; exact h2
theorem beq_of {a b : Int} (h : a = b) : (a == b) = true := by subst h; exact beq_self_eq_true a

end Go.W

/-
  Package top: liars, whether a crowd answers at all.
-/
namespace Go.W
open Go.Proofs

set_option maxHeartbeats 4000000 in
set_option maxRecDepth 100000 in
theorem alive_top : Pure Try.prog 14 [] (.data (.bool true)) := by
  refine spec_of ttok Try.func14 rfl (by kernel_rfl) (by exact Nat.le_of_ble_eq_true rfl) fun hin hie c0 hc0 he => ?_
  have hn0 : c0.es.length ≤ 0 := Nat.le_of_eq (by rw [he]; rfl)
  obtain ⟨c, s, e, h1, h2, h3⟩ := alive_fact
  have hdo := do_no (c := newC (-1)) (a := a0) (Nat.zero_le _) ⟨by decide, by decide⟩ (fun h => absurd h.2.1 (by decide))
  rw [e] at hdo
  refine R [] ?_
  refine R [Hint.on [] (CE (newC (-1))) (.tuple [.ptr 0 [], .data (I 0)])] (ho := by exact ⟨newC_ok (-1) (by omega), trivial⟩) ?_
  refine W.seq (R [] ?_)
  refine CF ?_
  refine W.skip ?_
  refine R [Hint.on [0, 1] (CE c) (.data (eReply ⟨0, 6, s⟩))] (ho := by with_unfolding_all exact ⟨fn_act hdo (actD (a := a0) rfl rfl rfl rfl rfl rfl (fun _ => rfl)), sameRR _ _, trivial⟩) ?_
  refine R [(Hint.on [0, 1] (CE c) (.data (eLetters c.net))).take, (Hint.on [0, 1] (CE c) (.data (eNode (c.nodes 0)))).take] (ho := ?ob) ?_
  case ob =>
    have hl : ((c.net.map eLetter).length : Int) = 6 := by rw [List.length_map]; omega
    refine ⟨rfl, crowdNet_spec c (by omega), beq_of hl, crowdNode_spec c 0 (by omega) h3, trivial⟩
  refine W.ret (EndB 0 hn0 ?_)
  have hl : (((c.net.map eLetter).length : Int) == 6) = true := beq_of (by rw [List.length_map]; omega)
  exact bifh2 hl (beq_of h2)

theorem tmod5 (n : Int) : (n % 5 = Int.tmod n 5 ∧ 0 ≤ n) ∨ (Int.tmod n 5 = - ((-n) % 5) ∧ n < 0) := by
  rcases Int.lt_or_le n 0 with h | h
  · right
    refine ⟨?_, h⟩
    have : Int.tmod n 5 = - Int.tmod (-n) 5 := by rw [Int.neg_tmod]; omega
    rw [this, Int.tmod_eq_emod_of_nonneg (by omega)]
  · exact .inl ⟨(Int.tmod_eq_emod_of_nonneg h).symm, h⟩
/-- Who lies. -/
def liesV (n : Int) : Int := n % 5 - 1
theorem liesV_bd (n : Int) : -1 ≤ liesV n ∧ liesV n < 4 := by unfold liesV; omega

set_option maxRecDepth 100000 in
theorem lies_top (n : Int) : Pure Try.prog 10 [.data (I n)] (.data (I (liesV n))) := by
  refine spec_of ttok Try.func10 rfl (by kernel_rfl) (by exact Nat.le_of_ble_eq_true rfl) fun hin hie c0 hc0 he => ?_
  have hn0 : c0.es.length ≤ 0 := Nat.le_of_eq (by rw [he]; rfl)
  have h1 := tmod5 n
  have h2 : IntKind.i64.wrap (Int.tmod n 5) = Int.tmod n 5 := by
    refine i64_wrap ?_ ?_ <;> omega
  refine R [] ?_
  refine R [] (ho := by exact ⟨by omega, h2, trivial⟩) ?_
  refine W.seq (R [] ?_)
  refine C (fun h => ?_) (fun h => ?_)
  · have hneg : Int.tmod n 5 < 0 := of_decide_eq_true h
    refine R1 [] ?_
    refine R [] ?_
    refine W.ret (EndI 0 hn0 ?_)
    rw [i64_wrap (n := Int.tmod n 5 + 5) (by omega) (by omega), i64_wrap (by omega) (by omega)]
    unfold liesV; omega
  · have hneg : ¬ Int.tmod n 5 < 0 := of_decide_eq_false h
    refine W.skip ?_
    refine R [] ?_
    refine W.ret (EndI 0 hn0 ?_)
    rw [i64_wrap (by omega) (by omega)]
    unfold liesV; omega

set_option maxRecDepth 100000 in
theorem quiet_top (c : CrowdS) (a : Act) (r : Reply) : Fn Try.prog 12 [.ptr 0 [], .data (eAct a), .data (eReply r)] (CE c) (.data (.bool true)) (CE c) := by
  refine spec_of ttok Try.func12 rfl (by kernel_rfl) (by exact Nat.le_of_ble_eq_true rfl) fun hin hie c0 hc0 he => ?_
  have hn0 : c0.es.length ≤ 2 := Nat.le_of_eq (by rw [he]; rfl)
  refine R [] ?_
  refine R [] ?_
  exact W.ret (EndB 2 hn0 rfl)

end Go.W
