/-
  Package votes, walked: sheets.
-/
import Derived.Test.YthpjdjofcbnoiacFl
namespace Go.W
open Go.Proofs

/-! ### Parts of sheets, written -/

theorem votes_set (v : Nat → Int) (k : Nat) (x : Int) : (eVotes v).set [k] (I x) = eVotes (upd v k x) := by
  simp only [eVotes, D.set, set_nil, upd]
  congr 1
  funext j
  exact bif_map I _ _ _
theorem votes6_set {v : Nat → Nat → Int} {r : Nat} {p : List Nat} {u : D} {x : Nat → Int} (h : (eVotes (v r)).set p u = eVotes x) : (eVotes6 v).set (r :: p) u = eVotes6 (upd v r x) := by
  simp only [eVotes6, D.set, h, upd]
  congr 1
  funext j
  exact bif_map eVotes _ _ _
theorem calls_set (c : Nat → Call) (r : Nat) (x : Call) : (eCalls c).set [r] (eCall x) = eCalls (upd c r x) := by
  simp only [eCalls, D.set, set_nil, upd]
  congr 1
  funext j
  exact bif_map eCall _ _ _
theorem sheet_set0 {s : Sheet} {p : List Nat} {u : D} {c : Nat → Call} (h : (eCalls s.calls).set p u = eCalls c) : (eSheet s).set (0 :: p) u = eSheet { s with calls := c } := by
  simp only [eSheet, D.set, h]
  congr 1
  funext j
  match j with
  | 0 => rfl
  | 1 => rfl
  | 2 => rfl
  | _ + 3 => rfl
theorem sheet_set1 {s : Sheet} {p : List Nat} {u : D} {c : Nat → Nat → Int} (h : (eVotes6 s.wishes).set p u = eVotes6 c) : (eSheet s).set (1 :: p) u = eSheet { s with wishes := c } := by
  simp only [eSheet, D.set, h]
  congr 1
  funext j
  match j with
  | 0 => rfl
  | 1 => rfl
  | 2 => rfl
  | _ + 3 => rfl
theorem sheet_set2 {s : Sheet} {p : List Nat} {u : D} {c : Nat → Nat → Int} (h : (eVotes6 s.promises).set p u = eVotes6 c) : (eSheet s).set (2 :: p) u = eSheet { s with promises := c } := by
  simp only [eSheet, D.set, h]
  congr 1
  funext j
  match j with
  | 0 => rfl
  | 1 => rfl
  | 2 => rfl
  | _ + 3 => rfl

theorem sameVV (a b : Nat → Int) : Same (eVotes a) (eVotes b) := ⟨rfl, rfl, fun _ _ => trivial⟩
theorem sameVV6 (a b : Nat → Nat → Int) : Same (eVotes6 a) (eVotes6 b) := ⟨rfl, rfl, fun _ _ => sameVV _ _⟩
theorem sameCC (a b : Call) : Same (eCall a) (eCall b) := ⟨rfl, fun i hi => by
  match i, hi with
  | 0, _ => trivial
  | 1, _ => trivial
  | 2, _ => trivial⟩
theorem sameCC6 (a b : Nat → Call) : Same (eCalls a) (eCalls b) := ⟨rfl, rfl, fun _ _ => sameCC _ _⟩
theorem sameSS (a b : Sheet) : Same (eSheet a) (eSheet b) := ⟨rfl, fun i hi => by
  match i, hi with
  | 0, _ => exact sameCC6 _ _
  | 1, _ => exact sameVV6 _ _
  | 2, _ => exact sameVV6 _ _⟩

theorem eCall_of {f : Nat → D} {c : Call} (h0 : f 0 = .bool c.is) (h1 : f 1 = I c.value) (h2 : f 2 = I c.valid) (h3 : ∀ i, f (i + 3) = .nil) : D.agg 3 f = eCall c := by
  unfold eCall
  congr 1
  funext i
  match i with
  | 0 => exact h0
  | 1 => exact h1
  | 2 => exact h2
  | i + 3 => exact h3 i
theorem sameC {a c : Call} {f : Nat → D} (h0 : f 0 = .bool c.is) (h1 : f 1 = I c.value) (h2 : f 2 = I c.valid) (h3 : ∀ i, f (i + 3) = .nil) : Same (eCall a) (.agg 3 f) := by
  rw [eCall_of h0 h1 h2 h3]; exact sameCC a c

/-! ### What a sheet hears -/

def rOf (w : Word) : Nat := w.round.toNat
def fOf (w : Word) : Nat := w.frm.toNat
def hHears (w : Word) (s : Sheet) : Bool := !(s.calls (rOf w)).is && w.frm == leader w.height w.round
def hearS (s : Sheet) (w : Word) : Sheet :=
  if goodW w = 0 then
    if w.kind = 1 then (if hHears w s then { s with calls := upd s.calls (rOf w) ⟨true, w.value, w.valid⟩ } else s)
    else if w.kind = 2 then (if s.wishes (rOf w) (fOf w) = 0 then { s with wishes := upd s.wishes (rOf w) (upd (s.wishes (rOf w)) (fOf w) (w.value + 1)) } else s)
    else (if s.promises (rOf w) (fOf w) = 0 then { s with promises := upd s.promises (rOf w) (upd (s.promises (rOf w)) (fOf w) (w.value + 1)) } else s)
  else s

structure GoodW (w : Word) : Prop where
  kind : 1 ≤ w.kind ∧ w.kind ≤ 3
  frm : 0 ≤ w.frm ∧ w.frm < 4
  height : 0 ≤ w.height ∧ w.height < 4
  round : 0 ≤ w.round ∧ w.round < 6
  value : 0 ≤ w.value ∧ w.value ≤ 9
  prop : w.kind = 1 → 1 ≤ w.value ∧ -1 ≤ w.valid ∧ w.valid < w.round
  form : w.kind ≠ 1 → w.valid = 0

theorem goodW_iff (w : Word) : goodW w = 0 ↔ GoodW w := by
  constructor
  · intro h
    unfold goodW at h
    split at h
    · omega
    split at h
    · omega
    split at h
    · omega
    split at h
    · omega
    split at h
    · omega
    rename_i h1 h2 h3 h4 h5
    simp only [badKind, badPlace, badValue, badValid, badForm, Bool.or_eq_true, Bool.and_eq_true, decide_eq_true_eq, beq_iff_eq, Bool.not_eq_true', beq_eq_false_iff_ne] at h1 h2 h3 h4 h5
    constructor <;> omega
  · rintro ⟨h1, h2, h3, h4, h5, h6, h7⟩
    have b1 : badKind w = false := by simp [badKind]; omega
    have b2 : badPlace w = false := by simp [badPlace]; omega
    have b3 : badValue w = false := by
      simp only [badValue, Bool.or_eq_false_iff, Bool.and_eq_false_iff, decide_eq_false_iff_not, beq_eq_false_iff_ne]
      by_cases hk : w.kind = 1
      · have := h6 hk; exact ⟨⟨by omega, by omega⟩, .inr (by omega)⟩
      · exact ⟨⟨by omega, by omega⟩, .inl hk⟩
    have b4 : badValid w = false := by
      simp only [badValid, Bool.or_eq_false_iff, Bool.and_eq_false_iff, decide_eq_false_iff_not, beq_eq_false_iff_ne]
      by_cases hk : w.kind = 1
      · have := h6 hk; exact .inr ⟨by omega, by omega⟩
      · exact .inl hk
    have b5 : badForm w = false := by
      simp only [badForm, Bool.and_eq_false_iff, Bool.not_eq_false', beq_iff_eq]
      by_cases hk : w.kind = 1
      · exact .inl hk
      · exact .inr (h7 hk)
    simp [goodW, b1, b2, b3, b4, b5]

theorem AV_data {d e : D} (h : d = e) : AV.data d = AV.data e := by rw [h]

set_option maxRecDepth 100000 in
theorem hear_spec (s : Sheet) (w : Word) : Pure Try.prog 42 [.data (eSheet s), .data (eWord w)] (.data (eSheet (hearS s w))) := by
  refine spec_of ttok Try.func42 rfl (by kernel_rfl) (by exact Nat.le_of_ble_eq_true rfl) fun hin hie c0 hc0 he => ?_
  have hn0 : c0.es.length ≤ 0 := Nat.le_of_eq (by rw [he]; rfl)
  refine R [] ?_
  refine W.seq (R [.data (I (goodW w))] (ho := by exact ⟨good_spec w, trivial⟩) ?_)
  refine C (fun h => ?_) (fun h => ?_)
  · have hg : goodW w ≠ 0 := by simpa using h
    refine R [] (ho := by exact ⟨sameSS .zero s, trivial⟩) ?_
    refine W.ret (End 0 hn0 ⟨?_, rfl⟩)
    simp only [hearS, if_neg hg]; rfl
  have hg : goodW w = 0 := by simpa using h
  have hG := (goodW_iff w).1 hg
  have i6 := hG.round
  have i4 := hG.frm
  refine W.skip ?_
  refine W.seq (R [] ?_)
  refine W.block (R [] ?_)
  have fin : ∀ {x : D} {y : Sheet}, x = eSheet y → hearS s w = y → x = eSheet (hearS s w) := fun h1 h2 => by rw [h1, h2]
  refine C (fun h => ?_) (fun h => ?_)
  · have hk : w.kind = 1 := by simpa using h
    refine R [] (ho := by exact ⟨⟨by omega, by omega⟩, trivial⟩) ?_
    refine RD [.data (I (leader w.height w.round))] (ho := by exact ⟨fun _ => leader_spec _ _, trivial⟩) ?_
    refine C (fun h => ?_) (fun h => ?_)
    · have hh : hHears w s = true := by simpa only [bif_and, hHears, rOf] using h
      refine R1 [] (ho := by with_unfolding_all exact ⟨sameC (c := ⟨true, w.value, w.valid⟩) rfl rfl rfl (fun _ => rfl), trivial⟩) ?_
      refine R [] (ho := ?ob) ?_
      case ob =>
        refine ⟨?_, trivial⟩
        refine (sameSS .zero s).trans ?_
        with_unfolding_all exact set_same (p := [0, w.round.toNat]) (v := eCall (s.calls w.round.toNat)) ⟨by omega, by omega, trivial⟩ rfl (sameC (c := ⟨true, w.value, w.valid⟩) rfl rfl rfl (fun _ => rfl))
      refine W.ret (End 0 hn0 ⟨?_, rfl⟩)
      refine AV_data (fin (y := { s with calls := upd s.calls (rOf w) ⟨true, w.value, w.valid⟩ }) ?_ ?_)
      · with_unfolding_all exact sheet_set0 ((congrArg (fun d => (eCalls s.calls).set [w.round.toNat] d) (eCall_of (c := ⟨true, w.value, w.valid⟩) rfl rfl rfl (fun _ => rfl))).trans (calls_set _ _ _))
      · simp only [hearS, if_pos hg, if_pos hk, hh, if_true]
    · have hh : hHears w s = false := by simpa only [bif_and, hHears, rOf] using h
      refine W.skip ?_
      refine R [] (ho := by exact ⟨sameSS .zero s, trivial⟩) ?_
      refine W.ret (End 0 hn0 ⟨?_, rfl⟩)
      refine AV_data (fin rfl ?_)
      simp only [hearS, if_pos hg, if_pos hk, hh, Bool.false_eq_true, if_false]
  have hk1 : w.kind ≠ 1 := by simpa using h
  clear h
  refine R [] ?_
  refine C (fun h => ?_) (fun h => ?_)
  · have hk : w.kind = 2 := by simpa using h
    refine RD [] (ho := by exact ⟨⟨by omega, by omega⟩, ⟨by omega, by omega⟩, trivial⟩) ?_
    refine C (fun h => ?_) (fun h => ?_)
    · have hh : s.wishes (rOf w) (fOf w) = 0 := by
        have h' : (s.wishes (rOf w) (fOf w) == 0) = true := h
        simpa using h'
      refine RD1 [] (ho := by exact ⟨⟨by omega, by omega⟩, ⟨by omega, by omega⟩, trivial⟩) ?_
      refine R [] (ho := ?ob) ?_
      case ob =>
        refine ⟨?_, trivial⟩
        refine (sameSS .zero s).trans ?_
        with_unfolding_all exact set_same (p := [1, w.round.toNat, w.frm.toNat]) (v := I (s.wishes w.round.toNat w.frm.toNat)) ⟨by omega, by omega, by omega, trivial⟩ rfl trivial
      refine W.ret (End 0 hn0 ⟨?_, rfl⟩)
      refine AV_data (fin (y := { s with wishes := upd s.wishes (rOf w) (upd (s.wishes (rOf w)) (fOf w) (IntKind.i64.wrap (w.value + 1))) }) ?_ ?_)
      · with_unfolding_all exact sheet_set1 (votes6_set (votes_set _ _ _))
      · have hv := hG.value
        rw [i64_wrap (by omega) (by omega)]
        simp only [hearS, if_pos hg, if_neg hk1, if_pos hk, if_pos hh]
    · have hh : ¬ s.wishes (rOf w) (fOf w) = 0 := by
        have h' : (s.wishes (rOf w) (fOf w) == 0) = false := h
        simpa using h'
      refine W.skip ?_
      refine R [] (ho := by exact ⟨sameSS .zero s, trivial⟩) ?_
      refine W.ret (End 0 hn0 ⟨?_, rfl⟩)
      refine AV_data (fin rfl ?_)
      simp only [hearS, if_pos hg, if_neg hk1, if_pos hk, if_neg hh]
  have hk2 : w.kind ≠ 2 := by simpa using h
  clear h
  refine R [] ?_
  refine C (fun h => ?_) (fun h => ?_)
  rotate_left
  · exfalso
    have : w.kind ≠ 3 := by simpa using h
    have := hG.kind
    omega
  refine RD [] (ho := by exact ⟨⟨by omega, by omega⟩, ⟨by omega, by omega⟩, trivial⟩) ?_
  refine C (fun h => ?_) (fun h => ?_)
  · have hh : s.promises (rOf w) (fOf w) = 0 := by
      have h' : (s.promises (rOf w) (fOf w) == 0) = true := h
      simpa using h'
    refine RD1 [] (ho := by exact ⟨⟨by omega, by omega⟩, ⟨by omega, by omega⟩, trivial⟩) ?_
    refine R [] (ho := ?ob) ?_
    case ob =>
      refine ⟨?_, trivial⟩
      refine (sameSS .zero s).trans ?_
      with_unfolding_all exact set_same (p := [2, w.round.toNat, w.frm.toNat]) (v := I (s.promises w.round.toNat w.frm.toNat)) ⟨by omega, by omega, by omega, trivial⟩ rfl trivial
    refine W.ret (End 0 hn0 ⟨?_, rfl⟩)
    refine AV_data (fin (y := { s with promises := upd s.promises (rOf w) (upd (s.promises (rOf w)) (fOf w) (IntKind.i64.wrap (w.value + 1))) }) ?_ ?_)
    · with_unfolding_all exact sheet_set2 (votes6_set (votes_set _ _ _))
    · have hv := hG.value
      rw [i64_wrap (by omega) (by omega)]
      simp only [hearS, if_pos hg, if_neg hk1, if_neg hk2, if_pos hh]
  · have hh : ¬ s.promises (rOf w) (fOf w) = 0 := by
      have h' : (s.promises (rOf w) (fOf w) == 0) = false := h
      simpa using h'
    refine W.skip ?_
    refine R [] (ho := by exact ⟨sameSS .zero s, trivial⟩) ?_
    refine W.ret (End 0 hn0 ⟨?_, rfl⟩)
    refine AV_data (fin rfl ?_)
    simp only [hearS, if_pos hg, if_neg hk1, if_neg hk2, if_neg hh]

end Go.W
