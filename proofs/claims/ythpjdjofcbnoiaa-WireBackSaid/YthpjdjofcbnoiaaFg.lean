/-
  Package wire, walked: a text as a word.
-/
import Derived.Test.YthpjdjofcbnoiaaFf
namespace Go.W
open Go.Proofs

def upd {α : Type} (f : Nat → α) (k : Nat) (x : α) : Nat → α := fun j => bif Nat.beq j k then x else f j
theorem upd_same {α : Type} (f : Nat → α) (k : Nat) (x : α) : upd f k x k = x := by simp [upd]
theorem upd_other {α : Type} (f : Nat → α) {k j : Nat} (x : α) (h : j ≠ k) : upd f k x j = f j := by simp only [upd, nbeq_ne h, cond_false]
theorem bif_map {α β : Type} (g : α → β) (b : Bool) (x y : α) : (bif b then g x else g y) = g (bif b then x else y) := by cases b <;> rfl

theorem ints6_set (l : Nat → Int) (k : Nat) (x : Int) : (eInts6 l).set [k] (I x) = eInts6 (upd l k x) := by
  simp only [eInts6, D.set, set_nil, upd]
  congr 1
  funext j
  exact bif_map I _ _ _

theorem eWord_of {f : Nat → D} {w : Word} (h0 : f 0 = I w.kind) (h1 : f 1 = I w.frm) (h2 : f 2 = I w.height) (h3 : f 3 = I w.round) (h4 : f 4 = I w.value) (h5 : f 5 = I w.valid) (h6 : ∀ i, f (i + 6) = .nil) : AV.data (.agg 6 f) = AV.data (eWord w) := by
  unfold eWord
  congr 2
  funext i
  match i with
  | 0 => exact h0
  | 1 => exact h1
  | 2 => exact h2
  | 3 => exact h3
  | 4 => exact h4
  | 5 => exact h5
  | i + 6 => exact h6 i

theorem sameWW (a b : Word) : Same (eWord a) (eWord b) := ⟨rfl, fun i hi => by
  match i, hi with
  | 0, _ => trivial
  | 1, _ => trivial
  | 2, _ => trivial
  | 3, _ => trivial
  | 4, _ => trivial
  | 5, _ => trivial⟩
theorem sameW {a w : Word} {f : Nat → D} (h0 : f 0 = I w.kind) (h1 : f 1 = I w.frm) (h2 : f 2 = I w.height) (h3 : f 3 = I w.round) (h4 : f 4 = I w.value) (h5 : f 5 = I w.valid) (h6 : ∀ i, f (i + 6) = .nil) : Same (eWord a) (.agg 6 f) := by
  have := eWord_of h0 h1 h2 h3 h4 h5 h6
  simp only [AV.data.injEq] at this
  rw [this]; exact sameWW a w
/-- What a store of a word owes. -/
theorem sameW' {a w : Word} {f : Nat → D} (h0 : f 0 = I w.kind) (h1 : f 1 = I w.frm) (h2 : f 2 = I w.height) (h3 : f 3 = I w.round) (h4 : f 4 = I w.value) (h5 : f 5 = I w.valid) (h6 : ∀ i, f (i + 6) = .nil) : AllP [Same (eWord a) (.agg 6 f)] :=
  ⟨sameW h0 h1 h2 h3 h4 h5 h6, trivial⟩

def byteAt (s : ByteArray) (i : Nat) : Int := (s.data.getD i 0).toNat
def sgn (c : Int) : Int := if c = 45 then -1 else c - 48
def okc (c : Int) : Bool := c == 45 || (decide (48 ≤ c) && decide (c ≤ 57))
def sg (s : ByteArray) (i : Nat) : Int := sgn (byteAt s i)
def lK (s : ByteArray) : Nat → Nat → Int
  | 0 => fun _ => 0
  | k + 1 => upd (lK s k) k (sg s k)
def okK (s : ByteArray) : Nat → Bool
  | 0 => true
  | k + 1 => okK s k && okc (byteAt s k)
def wordS (s : ByteArray) : Word := ⟨sg s 0, sg s 1, sg s 2, sg s 3, sg s 4, sg s 5⟩
def decOK (s : ByteArray) : Bool := decide (s.size = 6) && okK s 6 && decide (goodW (wordS s) = 0)
def decW (s : ByteArray) : Word := if decOK s then wordS s else .zero
def decE (s : ByteArray) : Int := if decOK s then 0 else 1

theorem okK_of {s : ByteArray} : ∀ {n k : Nat}, okc (byteAt s k) = false → k < n → okK s n = false
  | 0, k, _, h => by omega
  | n + 1, k, h, hk => by
    simp only [okK, Bool.and_eq_false_iff]
    rcases Nat.lt_or_ge k n with h1 | h1
    · exact .inl (okK_of h h1)
    · have : k = n := by omega
      subst this; exact .inr h

theorem byteAt_bd (s : ByteArray) (i : Nat) : 0 ≤ byteAt s i ∧ byteAt s i < 256 := by
  unfold byteAt
  have := (s.data.getD i 0).toNat_lt
  omega

theorem u8_wrap' {n : Int} (h0 : 0 ≤ n) (h1 : n < 256) : IntKind.u8.wrap n = n := by
  simp [IntKind.wrap, IntKind.bits, IntKind.signed]
  omega

set_option maxRecDepth 100000 in
theorem decode_spec (s : ByteArray) : Pure Try.prog 28 [.data (.str s)] (.tuple [.data (eWord (decW s)), .data (I (decE s))]) := by
  refine spec_of ttok Try.func28 rfl (by kernel_rfl) (by exact Nat.le_of_ble_eq_true rfl) fun hin hie c0 hc0 he => ?_
  have hn0 : c0.es.length ≤ 0 := Nat.le_of_eq (by rw [he]; rfl)
  have bad : decOK s = false → AV.tuple [.data (eWord .zero), .data (I 1)] = .tuple [.data (eWord (decW s)), .data (I (decE s))] := fun h => by
    simp only [decW, decE, h, Bool.false_eq_true, if_false]
  refine R [] ?_
  refine R [] ?_
  refine W.seq (R [] ?_)
  refine C (fun h => ?_) (fun h => ?_)
  · have hs : decOK s = false := by
      have : ¬ s.size = 6 := by
        intro h6
        simp [h6] at h
      simp [decOK, this]
    refine R [] (ho := by with_unfolding_all exact ⟨sameWW .zero .zero, trivial⟩) ?_
    refine W.ret (End 0 hn0 ⟨?_, rfl⟩)
    exact bad hs
  have hs : s.size = 6 := by
    simp only [Bool.not_eq_false', beq_iff_eq] at h
    exact Int.ofNat.inj h
  refine W.skip ?_
  refine W.seq (R [] ?_)
  refine W.block (W.loop hc0 (ι := Nat) (fun k => ⟨55, frOf [(0, .data (.str s)), (2, .ptr 0 []), (4, .ptr 1 []), (12, .data (I ((k : Nat) : Int)))], [.var (eWord .zero) [], .var (eInts6 (lK s k)) []]⟩) (fun k => k ≤ 6 ∧ okK s k = true) (fun k => 6 - k) 0 ⟨by omega, rfl⟩ ?_ ?_)
  · exact Le.cut _ 2 (by omega) ⟨⟨by with_unfolding_all rfl, rfl⟩, ⟨by with_unfolding_all rfl, rfl⟩, ⟨by with_unfolding_all rfl, rfl⟩, ⟨by with_unfolding_all rfl, rfl⟩, trivial⟩ (by with_unfolding_all rfl)
  · intro k ⟨hk, hok⟩
    refine R [] ?_
    refine W.seq (C (fun h => ?_) (fun h => ?_))
    · have hk : k < 6 := by have := of_decide_eq_true h; omega
      have hb := byteAt_bd s k
      refine W.skip (W.seq (W.block ?_))
      refine R [] ?_
      refine R [] (ho := by exact ⟨⟨by omega, by omega⟩, trivial⟩) ?_
      refine W.block (R [] ?_)
      refine C (fun h => ?_) (fun h => ?_)
      · have h45 : byteAt s k = 45 := by
          have h' : (byteAt s k == 45) = true := h
          simpa using h'
        refine R1 [] (ho := by exact ⟨⟨by omega, by omega⟩, trivial⟩) ?_
        refine R1 [] ?_
        refine ⟨k + 1, ⟨by omega, ?_⟩, by omega, Le.cut _ 2 (by omega) ⟨⟨by with_unfolding_all rfl, rfl⟩, ⟨by with_unfolding_all rfl, rfl⟩, ⟨by with_unfolding_all rfl, rfl⟩, ⟨sl_int (wrap_cast hk (by omega)), rfl⟩, trivial⟩ ?_⟩
        · simp [okK, hok, okc, h45]
        · have : sg s k = -1 := by simp [sg, sgn, h45]
          simp only [lK, this]
          with_unfolding_all exact congrArg (fun d => [Ent.var (eWord .zero) [], Ent.var d []]) (ints6_set (lK s k) k (-1))
      · have h45 : byteAt s k ≠ 45 := by
          have h' : (byteAt s k == 45) = false := h
          simpa using h'
        refine R [] ?_
        refine C (fun h => ?_) (fun h => ?_)
        · have hr : 48 ≤ byteAt s k ∧ byteAt s k ≤ 57 := by
            have h' : (bif decide (48 ≤ byteAt s k) then decide (byteAt s k ≤ 57) else false) = true := h
            simpa [bif_and] using h'
          refine R1 [] (ho := by exact ⟨⟨by omega, by omega⟩, trivial⟩) ?_
          refine R1 [] ?_
          refine ⟨k + 1, ⟨by omega, ?_⟩, by omega, Le.cut _ 2 (by omega) ⟨⟨by with_unfolding_all rfl, rfl⟩, ⟨by with_unfolding_all rfl, rfl⟩, ⟨by with_unfolding_all rfl, rfl⟩, ⟨sl_int (wrap_cast hk (by omega)), rfl⟩, trivial⟩ ?_⟩
          · simp [okK, hok, okc, hr.1, hr.2]
          · have e1 : sg s k = IntKind.i64.wrap (IntKind.u8.wrap (byteAt s k - 48)) := by
              rw [u8_wrap' (by omega) (by omega), i64_wrap (by omega) (by omega)]
              simp [sg, sgn, h45]
            simp only [lK, e1]
            with_unfolding_all exact congrArg (fun d => [Ent.var (eWord .zero) [], Ent.var d []]) (ints6_set (lK s k) k (IntKind.i64.wrap (IntKind.u8.wrap (byteAt s k - 48))))
        · have hno : okc (byteAt s k) = false := by
            have h' : (bif decide (48 ≤ byteAt s k) then decide (byteAt s k ≤ 57) else false) = false := h
            rw [bif_and] at h'
            simp [okc, h45, h']
          have hs0 : decOK s = false := by simp [decOK, okK_of hno hk]
          refine R [] (ho := by with_unfolding_all exact ⟨sameWW .zero .zero, trivial⟩) ?_
          refine W.ret (End 0 hn0 ⟨?_, rfl⟩)
          exact bad hs0
    · have hk : k = 6 := by have := of_decide_eq_false h; omega
      subst hk
      refine W.exit ?_
      refine R [] (ho := ?ob) ?_
      case ob => exact ⟨⟨by omega, by omega⟩, ⟨by omega, by omega⟩, ⟨by omega, by omega⟩, ⟨by omega, by omega⟩, ⟨by omega, by omega⟩, ⟨by omega, by omega⟩, by with_unfolding_all exact sameW (w := wordS s) rfl rfl rfl rfl rfl rfl (fun _ => rfl), trivial⟩
      refine W.seq (R [.data (I (goodW (wordS s)))] (ho := ?ob) ?_)
      case ob =>
        refine ⟨pure1 (good_spec (wordS s)) ?_ rfl, trivial⟩
        with_unfolding_all exact eWord_of rfl rfl rfl rfl rfl rfl (fun _ => rfl)
      refine C (fun h => ?_) (fun h => ?_)
      · have hg : goodW (wordS s) ≠ 0 := by simpa using h
        refine R [] (ho := by with_unfolding_all exact ⟨sameWW .zero .zero, trivial⟩) ?_
        refine W.ret (End 0 hn0 ⟨?_, rfl⟩)
        exact bad (by simp [decOK, hg])
      · have hg : goodW (wordS s) = 0 := by simpa using h
        have hok6 : decOK s = true := by simp [decOK, hs, hok, hg]
        refine W.skip ?_
        refine R [] (ho := by with_unfolding_all exact ⟨(sameW (w := wordS s) rfl rfl rfl rfl rfl rfl (fun _ => rfl)), trivial⟩) ?_
        refine W.ret (End 0 hn0 ⟨?_, rfl⟩)
        simp only [decW, decE, hok6, if_true]
        with_unfolding_all exact congrArg (fun a => AV.tuple [a, AV.data (I 0)]) (eWord_of rfl rfl rfl rfl rfl rfl (fun _ => rfl))

end Go.W
