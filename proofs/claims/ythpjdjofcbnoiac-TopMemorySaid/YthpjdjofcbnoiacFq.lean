/-
  Package slices, walked: clones, what is deleted.
-/
import Derived.Test.YthpjdjofcbnoiacFp
namespace Go.W
open Go.Proofs

section
variable {c0 : Cx} {Q : Exit → St → Prop} {s : St}
/-- A test for nil. -/
theorem NT {id : Nat} {a o : Oper} {T yT : TypeId} {x : Operand} {d : Nat} {s1 : St} {obs : List Prop} {av : AV} {xs : List D} {ti : TI} {e sz by_ : Nat}
    (hQ : ∀ b, (b = true → xs = []) → Q .normal (s1.put (some d) (.v (.data (.bool b))) s1.es)) (hop : o.op = .binOp .eql T x (.const (.slice none 0 0)) yT := by rfl) (hg : o.guard = none := by rfl) (hd : o.dst = some d := by rfl)
    (h : run Try.prog tt ([a] ++ [o]).toArray (zipR [a] []) s = some (s1, obs) := by with_unfolding_all rfl) (ho : AllP obs := by exact trivial) (hdn : Nat.blt d s1.nt = true := by with_unfolding_all rfl)
    (hti : tt.ti T = some ti := by with_unfolding_all rfl) (hk : ti.kind = .slice e sz by_ := by with_unfolding_all rfl) (hx : s1.look [] x = av := by with_unfolding_all rfl) (ha : asList av = some xs := by with_unfolding_all rfl) :
    AWP Try.prog c0 (.region id #[a, o] false) Q s := W.nilT (l1 := [a]) ttok [] hop hg hd hdn hti hk h ho hx ha hQ
end

theorem noList_I (n : Int) : noList (I n) = true := rfl

set_option maxRecDepth 100000 in
theorem cloneInts_row (q : List Int) (hq : q.length ≤ 1000000) : Fn Try.prog 21 [.data (eQ q)] [] (.row 0 (q.map I)) [.row 1 (q.map I)] := by
  refine spec_of ttok Try.func21 rfl (by kernel_rfl) (by exact Nat.le_of_ble_eq_true rfl) fun hin hie c0 hc0 he => ?_
  have hn0 : c0.es.length ≤ 0 := Nat.le_of_eq (by rw [he]; rfl)
  refine R [] ?_
  refine W.seq (W.seq (NT (fun b hb => ?_)))
  refine C (fun h => ?_) (fun h => ?_)
  · have hnil : q.map I = [] := hb h
    refine R [] ?_
    refine W.le hc0 (Le.slotRow 2 1 (by with_unfolding_all rfl)) ?_
    refine W.ret (End 1 (by omega) ⟨?_, ?_⟩)
    · rw [hnil]; rfl
    · rw [hnil]; rfl
  · refine W.skip ?_
    refine R [] (ho := by exact ⟨sizes_q q, by rw [List.length_map]; unfold maxLen; omega, trivial⟩) ?_
    exact W.ret (End 1 (by omega) ⟨rfl, rfl⟩)

def ownQ (q : List Int) : Nat → D := fun i => I (q.getD i 0)

set_option maxRecDepth 100000 in
theorem cloneInts_own (q : List Int) (hne : q ≠ []) (hq : q.length ≤ 1000000) : Fn Try.prog 21 [.data (eQ q)] [] (.sl 0 0 q.length q.length) [.var (.arr q.length 1 (ownQ q)) []] := by
  refine spec_of ttok Try.func21 rfl (by kernel_rfl) (by exact Nat.le_of_ble_eq_true rfl) fun hin hie c0 hc0 he => ?_
  have hz : c0.es.length = 0 := by rw [he]; rfl
  refine R [] ?_
  refine W.seq (W.seq (NT (fun b hb => ?_)))
  refine C (fun h => ?_) (fun h => ?_)
  · exact absurd (List.map_eq_nil_iff.1 (hb h)) hne
  · refine W.skip ?_
    refine R [] (ho := by exact ⟨sizes_q q, by rw [List.length_map]; unfold maxLen; omega, trivial⟩) ?_
    refine W.le hc0 (s' := ⟨8, frOf [(2, .sl 0 0 (q.map I).length (q.map I).length)], [.var (.arr (q.map I).length 1 (ownQ q)) []]⟩) ?_ ?_
    · rw [hz]
      refine Le.rowOwn 2 1 (xs := q.map I) (f := ownQ q) (by with_unfolding_all rfl) (by with_unfolding_all rfl) (by simpa using hne) ?_ ?_ ?_
      · intro i h
        have h' : i < q.length := by simpa using h
        simp [ownQ, List.getElem?_eq_getElem h']
      · intro i _; rfl
      · intro i _; rfl
    have hl : (q.map I).length = q.length := List.length_map _
    refine W.ret (End 1 (by omega) ⟨?_, ?_⟩)
    · rw [← hl]; rfl
    · rw [← hl]; rfl

set_option maxRecDepth 100000 in
theorem indexFunc_spec1 (q : List Int) {h : FuncId} {d : D} {p : Int → Bool} (hp : ∀ x, Pure Try.prog h [.data (I x), .cptr d] (.data (.bool (p x)))) :
    Pure Try.prog 58 [.data (eQ q), .func h [.cptr d]] (.data (I (idxF p q))) := by
  refine spec_of ttok Try.func58 rfl (by kernel_rfl) (by exact Nat.le_of_ble_eq_true rfl) fun hin hie c0 hc0 he => ?_
  have hn0 : c0.es.length ≤ 0 := Nat.le_of_eq (by rw [he]; rfl)
  have hlen : q.length ≤ 9223372036854775807 := by
    have : InR (eQ q) := hin (.data (eQ q)) (by simp)
    cases this with
    | list h _ => simpa [maxLen] using h
  refine R [] ?_
  refine W.seq (R [] ?_)
  refine W.block (W.loop hc0 (ι := Nat) (fun k => ⟨19, frOf [(0, .data (eQ q)), (1, .func h [.cptr d]), (7, .data (I ((q.map I).length : Int))), (8, .data (I k))], []⟩) (fun k => k ≤ q.length ∧ ∀ j, j < k → p (q.getD j 0) = false) (fun k => q.length - k) 0 ⟨by omega, fun i hi => by omega⟩ ?_ ?_)
  · exact Le.cut _ 0 hn0 ⟨⟨by with_unfolding_all rfl, rfl⟩, ⟨by with_unfolding_all rfl, rfl⟩, ⟨by with_unfolding_all rfl, rfl⟩, ⟨by with_unfolding_all rfl, rfl⟩, trivial⟩ rfl
  · intro k ⟨hk, hm⟩
    refine R [] ?_
    refine W.seq (C (fun h => ?_) (fun h => ?_))
    · have hk : k < q.length := by have := of_decide_eq_true h; simp at this; omega
      refine W.skip (W.seq (W.block ?_))
      refine R [] ?_
      refine R [.is 14 (.cptr (I (q.getD k 0))), .data (.bool (p (q.getD k 0)))] (ho := by exact ⟨cptr_q q hk, ⟨by omega, by simp; omega⟩, sizes_q q, hp _, trivial⟩) ?_
      refine C (fun h => ?_) (fun h => ?_)
      · refine R [] ?_
        refine W.ret (EndI 0 hn0 ?_)
        simp only [idxF, firstN_at h hm hk]
      · refine W.skip ?_
        refine R1 [] ?_
        refine ⟨k + 1, ⟨by omega, fun j hj => ?_⟩, by omega, Le.cut _ 0 hn0 ⟨⟨by with_unfolding_all rfl, rfl⟩, ⟨by with_unfolding_all rfl, rfl⟩, ⟨by with_unfolding_all rfl, rfl⟩, ⟨sl_int (wrap_up (by omega)), rfl⟩, trivial⟩ rfl⟩
        rcases Nat.lt_or_ge j k with h2 | h2
        · exact hm j h2
        · have : j = k := by omega
          subst this; exact h
    · have hk : k = q.length := by have := of_decide_eq_false h; simp at this; omega
      subst hk
      refine W.exit ?_
      refine R [] ?_
      refine W.ret (EndI 0 hn0 ?_)
      simp only [idxF, firstN_none.2 hm]

set_option maxRecDepth 100000 in
theorem settle1_spec (x v : Int) : Pure Try.prog 55 [.data (I x), .cptr (I v)] (.data (.bool (x == v))) := by
  refine spec_of ttok Try.func55 rfl (by kernel_rfl) (by exact Nat.le_of_ble_eq_true rfl) fun hin hie c0 hc0 he => ?_
  have hn0 : c0.es.length ≤ 0 := Nat.le_of_eq (by rw [he]; rfl)
  refine R [] ?_
  refine R [] ?_
  exact W.ret (End 0 hn0 ⟨rfl, rfl⟩)

theorem lst_eq {f : Nat → D} : ∀ (l : List D) (i : Nat), (∀ j (h : j < l.length), l[j] = f (i + j)) → lst f i l.length = l
  | [], _, _ => rfl
  | d :: l, i, h => by
    show f i :: lst f (i + 1) l.length = d :: l
    rw [lst_eq l (i + 1) fun j hj => by have := h (j + 1) (by simp; omega); simp only [List.getElem_cons_succ] at this; rw [this]; congr 1; omega]
    have := h 0 (by simp)
    simp only [List.getElem_cons_zero, Nat.add_zero] at this
    rw [← this]
theorem lst_own (q : List Int) : lst (ownQ q) 0 q.length = q.map I := by
  have := lst_eq (f := ownQ q) (q.map I) 0 (fun j hj => by
    have h' : j < q.length := by simpa using hj
    simp [ownQ, List.getElem?_eq_getElem h'])
  rwa [List.length_map] at this

/-- What is left of the first j. -/
def leftQ (q : List Int) (v : Int) (j : Nat) : List Int := (q.take j).filter fun x => !(x == v)
/-- The array, when the first j have been looked at. -/
def delF (q : List Int) (v : Int) (j : Nat) : Nat → D := fun k => I (if k < (leftQ q v j).length then (leftQ q v j).getD k 0 else q.getD k 0)

theorem leftQ_le (q : List Int) (v : Int) (j : Nat) : (leftQ q v j).length ≤ j := Nat.le_trans (List.length_filter_le _ _) (by simp; omega)
theorem leftQ_lt {q : List Int} {v : Int} {i j : Nat} (h : q.getD i 0 = v) (hi : i < j) (hj : j ≤ q.length) : (leftQ q v j).length < j := by
  have h0 : (q.take j).length = j := by simp; omega
  have hmem : v ∈ q.take j := by
    rw [← h]
    have hi' : i < (q.take j).length := by omega
    have := List.getElem_mem hi'
    rw [List.getElem_take] at this
    simpa [List.getElem?_eq_getElem (show i < q.length by omega)] using this
  have : (leftQ q v j).length < (q.take j).length := List.length_filter_lt_length_iff_exists.2 ⟨v, hmem, by simp⟩
  omega
theorem leftQ_succ {q : List Int} {v : Int} {j : Nat} (hj : j < q.length) : leftQ q v (j + 1) = if q.getD j 0 = v then leftQ q v j else leftQ q v j ++ [q.getD j 0] := by
  unfold leftQ
  rw [List.take_add_one, List.getElem?_eq_getElem hj]
  simp only [Option.toList, List.filter_append]
  have e : q.getD j 0 = q[j] := by simp [List.getElem?_eq_getElem hj]
  rw [e]
  split
  · rename_i h; simp [h]
  · rename_i h; simp [h]

theorem delF_at {q : List Int} {v : Int} {j : Nat} (hj : (leftQ q v j).length ≤ j) : delF q v j j = I (q.getD j 0) := by
  unfold delF
  rw [if_neg (by omega)]
theorem delF_skip {q : List Int} {v : Int} {j : Nat} (hj : j < q.length) (h : q.getD j 0 = v) : delF q v (j + 1) = delF q v j := by
  unfold delF
  rw [leftQ_succ hj, if_pos h]
theorem delF_keep {q : List Int} {v : Int} {j : Nat} (hj : j < q.length) (h : q.getD j 0 ≠ v) : (fun k => bif Nat.beq k (leftQ q v j).length then I (q.getD j 0) else delF q v j k) = delF q v (j + 1) := by
  funext k
  unfold delF
  rw [leftQ_succ hj, if_neg h]
  by_cases e : k = (leftQ q v j).length
  · subst e
    have hb : Nat.beq (leftQ q v j).length (leftQ q v j).length = true := Nat.beq_refl _
    simp only [hb, cond_true]
    rw [if_pos (by simp)]
    simp
  · simp only [nbeq_ne e, cond_false]
    by_cases h2 : k < (leftQ q v j).length
    · rw [if_pos h2, if_pos (by simp; omega)]
      simp [List.getElem?_append_left h2]
    · rw [if_neg h2, if_neg (by simp; omega)]
theorem leftQ_all (q : List Int) (v : Int) : leftQ q v q.length = q.filter fun x => !(x == v) := by
  unfold leftQ; rw [List.take_length]
theorem idx_del {q : List Int} {v : Int} : idxF (fun x => x == v) q = -1 ∧ (q.filter fun x => !(x == v)) = q ∨ ∃ i : Nat, idxF (fun x => x == v) q = i ∧ i < q.length ∧ q.getD i 0 = v ∧ leftQ q v (i + 1) = q.take i ∧ delF q v (i + 1) = ownQ q := by
  unfold idxF
  cases hf : firstN (fun k => q.getD k 0 == v) q.length with
  | none =>
    refine .inl ⟨rfl, List.filter_eq_self.2 fun x hx => ?_⟩
    obtain ⟨k, hk, rfl⟩ := List.getElem_of_mem hx
    have := firstN_none.1 hf k hk
    simpa [List.getElem?_eq_getElem hk] using this
  | some i =>
    obtain ⟨h1, h2, h3⟩ := firstN_some hf
    have h2 : q.getD i 0 = v := by simpa using h2
    have hl : leftQ q v (i + 1) = q.take i := by
      rw [leftQ_succ h1, if_pos h2]
      unfold leftQ
      refine List.filter_eq_self.2 fun x hx => ?_
      obtain ⟨k, hk, rfl⟩ := List.getElem_of_mem hx
      have hk' : k < i := by simp at hk; omega
      have := h3 k hk'
      rw [List.getElem_take]
      simpa [List.getElem?_eq_getElem (show k < q.length by omega)] using this
    refine .inr ⟨i, rfl, h1, h2, hl, ?_⟩
    funext k
    unfold delF ownQ
    rw [hl]
    split
    · rename_i hk
      have hk : k < i := by simp at hk; omega
      simp [List.getElem?_take, hk]
    · rfl

theorem del_end (q : List Int) (v : Int) : (fun k => bif inR (leftQ q v q.length).length (q.length - (leftQ q v q.length).length) k then I 0 else delF q v q.length k) = ownQ (q.filter fun x => !(x == v)) := by
  funext k
  have hle := leftQ_le q v q.length
  rw [← leftQ_all]
  unfold delF ownQ
  cases hb : inR (leftQ q v q.length).length (q.length - (leftQ q v q.length).length) k with
  | true =>
    have := inR_spec.1 hb
    simp only [cond_true]
    simp [List.getElem?_eq_none (show (leftQ q v q.length).length ≤ k by omega)]
  | false =>
    have h : ¬ _ := fun h => by rw [inR_spec.2 h] at hb; cases hb
    simp only [cond_false]
    split
    · rfl
    · have h1 : q.length ≤ k := by omega
      simp [List.getElem?_eq_none h1, List.getElem?_eq_none (show (leftQ q v q.length).length ≤ k by omega)]

set_option maxRecDepth 100000 in
theorem deleteFunc_spec (q : List Int) (v : Int) (hq : q.length ≤ 1000000) : Fn Try.prog 54 [.sl 0 0 q.length q.length, .func 55 [.ptr 1 []]] [.var (.arr q.length 1 (ownQ q)) [], .var (I v) []]
    (.sl 0 0 (q.filter fun x => !(x == v)).length q.length) [.var (.arr q.length 1 (ownQ (q.filter fun x => !(x == v)))) [], .var (I v) []] := by
  refine spec_of ttok Try.func54 rfl (by kernel_rfl) (by exact Nat.le_of_ble_eq_true rfl) fun hin hie c0 hc0 he => ?_
  have hn0 : c0.es.length ≤ 2 := Nat.le_of_eq (by rw [he]; rfl)
  refine R [] ?_
  refine R [.data (I (idxF (fun x => x == v) q))] (ho := ?ob) ?_
  case ob =>
    refine ⟨?_, trivial⟩
    have := indexFunc_spec1 q (p := fun x => x == v) fun x => settle1_spec x v
    unfold eQ at this
    rw [← lst_own] at this
    exact this
  refine W.seq (R [] ?_)
  refine C (fun h => ?_) (fun h => ?_)
  · have h : idxF (fun x => x == v) q = -1 := by simpa using h
    rcases idx_del (q := q) (v := v) with ⟨_, he⟩ | ⟨i, hi, _⟩
    · refine R [] ?_
      refine W.ret (End 2 hn0 ⟨?_, ?_⟩)
      · rw [he]; rfl
      · rw [he]; rfl
    · omega
  have h : idxF (fun x => x == v) q ≠ -1 := by simpa using h
  rcases idx_del (q := q) (v := v) with ⟨h', _⟩ | ⟨i, hi, hlt, hat, hleft, hdel⟩
  · exact absurd h' h
  have hw1 : IntKind.i64.wrap (idxF (fun x => x == v) q + 1) = ((i + 1 : Nat) : Int) := by rw [hi]; exact wrap_up (by omega)
  refine W.skip ?_
  refine W.seq (R [] ?_)
  refine W.block (W.loop hc0 (ι := Nat) (fun j => ⟨42, frOf [(0, .sl 0 0 q.length q.length), (1, .func 55 [.ptr 1 []]), (5, .data (I ((leftQ q v j).length : Int))), (6, .data (I j))], [.var (.arr q.length 1 (delF q v j)) [], .var (I v) []]⟩)
    (fun j => i < j ∧ j ≤ q.length) (fun j => q.length - j) (i + 1) ⟨by omega, by omega⟩ ?_ ?_)
  · refine Le.cut _ 2 hn0 ⟨⟨by with_unfolding_all rfl, rfl⟩, ⟨by with_unfolding_all rfl, rfl⟩, ⟨sl_int (a := idxF (fun x => x == v) q) ?_, rfl⟩, ⟨sl_int hw1, rfl⟩, trivial⟩ ?_
    · rw [hi, hleft]; simp; omega
    · rw [hdel]; with_unfolding_all rfl
  · intro j ⟨hj, hjn⟩
    have hll := leftQ_lt hat hj hjn
    refine W.seq (R [] ?_)
    refine C (fun h => ?_) (fun h => ?_)
    · have hk : j < q.length := by have := of_decide_eq_true h; omega
      refine W.skip (W.seq (W.block ?_))
      refine R [.is 25 (.data (I (q.getD j 0)))] (ho := ?ob) ?_
      case ob =>
        refine ⟨⟨by omega, by omega⟩, ?_, trivial⟩
        exact congrArg AV.data (delF_at (Nat.le_of_lt hll))
      refine R [.data (.bool (q.getD j 0 == v))] (ho := by exact ⟨settle1_spec _ _, trivial⟩) ?_
      refine C (fun h => ?_) (fun h => ?_)
      · have hne : q.getD j 0 ≠ v := by simpa using h
        refine R [] (ho := by exact ⟨⟨by omega, by omega⟩, trivial⟩) ?_
        refine R1 [] ?_
        refine R1 [] ?_
        refine ⟨j + 1, ⟨by omega, by omega⟩, by omega, Le.cut _ 2 hn0 ⟨⟨by with_unfolding_all rfl, rfl⟩, ⟨by with_unfolding_all rfl, rfl⟩, ⟨sl_int (a := IntKind.i64.wrap (((leftQ q v j).length : Int) + 1)) ?_, rfl⟩, ⟨sl_int (wrap_up (by omega)), rfl⟩, trivial⟩ ?_⟩
        · rw [wrap_up (by omega), leftQ_succ hk, if_neg hne]; simp
        · rw [← delF_keep hk hne]; with_unfolding_all rfl
      · have he : q.getD j 0 = v := by simpa using h
        refine W.skip ?_
        refine R1 [] ?_
        refine ⟨j + 1, ⟨by omega, by omega⟩, by omega, Le.cut _ 2 hn0 ⟨⟨by with_unfolding_all rfl, rfl⟩, ⟨by with_unfolding_all rfl, rfl⟩, ⟨sl_int (a := ((leftQ q v j).length : Int)) ?_, rfl⟩, ⟨sl_int (wrap_up (by omega)), rfl⟩, trivial⟩ ?_⟩
        · rw [leftQ_succ hk, if_pos he]
        · rw [delF_skip hk he]; with_unfolding_all rfl
    · have hk : j = q.length := by have := of_decide_eq_false h; omega
      subst hk
      have hle := leftQ_le q v q.length
      refine W.exit ?_
      refine R [] (ho := by exact ⟨⟨by show (0 : Int) ≤ _; omega, trivial, hle, .inl (by omega)⟩, fun _ _ => trivial, trivial⟩) ?_
      refine R [] (ho := by exact ⟨⟨trivial, by show (0 : Int) ≤ _; omega, by omega, .inl (by simp; omega)⟩, trivial⟩) ?_
      refine W.ret (End 2 hn0 ⟨?_, ?_⟩)
      · rw [← leftQ_all]; rfl
      · rw [← del_end]; rfl

end Go.W
