/-
  Package wire, walked: a word as text.
-/
import Derived.Test.YthpjdjofcbnoiaaFe
namespace Go.W
open Go.Proofs

def wordAt (w : Word) : Nat → Int
  | 0 => w.kind
  | 1 => w.frm
  | 2 => w.height
  | 3 => w.round
  | 4 => w.value
  | 5 => w.valid
  | _ => 0

def letterB (n : Int) : Int := (#[(45 : UInt8), 48, 49, 50, 51, 52, 53, 54, 55, 56, 57].getD (n + 1).toNat 0).toNat
def byteD (n : Int) : D := .int .u8 (letterB n)
def encL (w : Word) : Nat → List D
  | 0 => []
  | k + 1 => encL w k ++ [byteD (wordAt w k)]
def encS (w : Word) : ByteArray := if goodW w = 0 then strOfD (encL w 6) else ⟨#[]⟩

theorem data_arr' {n es : Nat} {f g : Nat → D} (h : ∀ i, f i = g i) : AV.data (.arr n es f) = AV.data (.arr n es g) := by rw [funext h]

theorem good_range {w : Word} (h : goodW w = 0) : ∀ k, k < 6 → -1 ≤ wordAt w k ∧ wordAt w k ≤ 9 := by
  unfold goodW at h
  split at h
  · omega
  split at h
  · omega
  split at h
  · omega
  split at h
  · omega
  split at h
  · omega
  rename_i h1 h2 h3 h4 h5
  simp only [badKind, badPlace, badValue, badValid, badForm, Bool.or_eq_true, Bool.and_eq_true, decide_eq_true_eq, beq_iff_eq, Bool.not_eq_true', beq_eq_false_iff_ne] at h1 h2 h3 h4 h5
  intro k hk
  match k, hk with
  | 0, _ => simp only [wordAt]; omega
  | 1, _ => simp only [wordAt]; omega
  | 2, _ => simp only [wordAt]; omega
  | 3, _ => simp only [wordAt]; omega
  | 4, _ => simp only [wordAt]; omega
  | 5, _ => simp only [wordAt]; omega

theorem encL_sizes (w : Word) : ∀ k, ∀ d ∈ encL w k, ∃ n, d = .int .u8 n
  | 0, d, h => by simp [encL] at h
  | k + 1, d, h => by
    simp only [encL, List.mem_append, List.mem_singleton] at h
    rcases h with h | h
    · exact encL_sizes w k d h
    · exact ⟨_, h⟩
theorem encL_length (w : Word) : ∀ k, (encL w k).length = k
  | 0 => rfl
  | k + 1 => by simp [encL, encL_length w k]

theorem one_size (n : Int) : ∀ d ∈ [D.int .u8 n], d.size = 1 := by simp [D.size]

theorem one_fits : (1 : Nat) ≤ maxLen ∧ 1 * 1 ≤ 140737488355328 := by unfold maxLen; omega

theorem enc_sizes (w : Word) (k : Nat) (n : Int) : ∀ d ∈ encL w (k + 1) ++ [D.int .u8 n], d.size = 1 := by
  intro d hd
  rcases List.mem_append.1 hd with h | h
  · obtain ⟨m, rfl⟩ := encL_sizes w (k + 1) d h; rfl
  · exact one_size n d h
theorem enc_fits (w : Word) (k : Nat) (n : Int) (h : k ≤ 6) : (encL w (k + 1) ++ [D.int .u8 n]).length ≤ maxLen ∧ (encL w (k + 1) ++ [D.int .u8 n]).length * 1 ≤ 140737488355328 := by
  rw [List.length_append, encL_length]
  unfold maxLen
  simp only [List.length_cons, List.length_nil]
  omega

def stE (w : Word) : Nat → St
  | 0 => ⟨38, frOf [(5, .data .nil), (25, .data (eInts6 (wordAt w))), (26, .data (I ((0 : Nat) : Int)))], [.var (eWord w) []]⟩
  | k + 1 => ⟨38, frOf [(5, .row 1 (encL w (k + 1))), (25, .data (eInts6 (wordAt w))), (26, .data (I ((k + 1 : Nat) : Int)))], [.var (eWord w) [], .row 1 (encL w (k + 1))]⟩

theorem enc_byte {n : Int} (h : -1 ≤ n ∧ n ≤ 9) : AV.data (.int .u8 (((#[(45 : UInt8), 48, 49, 50, 51, 52, 53, 54, 55, 56, 57] : Array UInt8).getD (IntKind.i64.wrap (n + 1)).toNat 0).toNat : Int)) = .data (byteD n) := by
  rw [i64_wrap (by omega) (by omega)]; rfl

set_option maxRecDepth 100000 in
theorem encode_spec (w : Word) : Pure Try.prog 26 [.data (eWord w)] (.tuple [.data (.str (encS w)), .data (I (goodW w))]) := by
  refine spec_of ttok Try.func26 rfl (by kernel_rfl) (by exact Nat.le_of_ble_eq_true rfl) fun hin hie c0 hc0 he => ?_
  have hn0 : c0.es.length ≤ 0 := Nat.le_of_eq (by rw [he]; rfl)
  refine R [] ?_
  refine W.seq (R [.data (I (goodW w))] (ho := by exact ⟨good_spec w, trivial⟩) ?_)
  refine R [] ?_
  refine C (fun h => ?_) (fun h => ?_)
  · have hg : goodW w ≠ 0 := by simpa using h
    refine R [] ?_
    refine W.ret (End 0 hn0 ⟨?_, rfl⟩)
    simp only [encS, if_neg hg]; rfl
  have hg : goodW w = 0 := by simpa using h
  have hr := good_range hg
  refine W.skip ?_
  refine R [] ?_
  refine W.seq (R [] ?_)
  refine W.block (W.loop hc0 (ι := Nat) (stE w) (fun k => k ≤ 6) (fun k => 6 - k) 0 (by omega) ?_ ?_)
  · refine Le.cut _ 1 (by omega) ⟨⟨by with_unfolding_all rfl, rfl⟩, ⟨sl ?_, rfl⟩, ⟨by with_unfolding_all rfl, rfl⟩, trivial⟩ rfl
    with_unfolding_all refine data_arr' fun i => ?_
    match i with
    | 0 => rfl
    | 1 => rfl
    | 2 => rfl
    | 3 => rfl
    | 4 => rfl
    | 5 => rfl
    | _ + 6 => rfl
  · intro k hk
    cases k with
    | zero =>
      refine R [] ?_
      refine W.seq (C (fun h => ?_) (fun h => ?_))
      rotate_left
      · exact absurd (of_decide_eq_false h) (by omega)
      refine W.skip (W.seq (W.block ?_))
      refine R [] (ho := by exact ⟨⟨by omega, by omega⟩, trivial⟩) ?_
      have h0 := hr 0 (by omega)
      have h1 := i64_wrap (n := wordAt w 0 + 1) (by omega) (by omega)
      refine R1 [] (ho := ?ob) ?_
      case ob => with_unfolding_all exact ⟨(show 0 ≤ IntKind.i64.wrap (wordAt w 0 + 1) ∧ IntKind.i64.wrap (wordAt w 0 + 1) < 11 from by rw [h1]; omega), one_size _, one_fits, trivial⟩
      have hL : [D.int .u8 (((#[(45 : UInt8), 48, 49, 50, 51, 52, 53, 54, 55, 56, 57] : Array UInt8).getD (IntKind.i64.wrap (wordAt w 0 + 1)).toNat 0).toNat : Int)] = encL w 1 := by rw [h1]; rfl
      refine R1 [] ?_
      refine ⟨1, by omega, by omega, Le.cut _ 2 (by omega) ⟨⟨sl (congrArg (AV.row 1) hL), rfl⟩, ⟨by with_unfolding_all rfl, rfl⟩, ⟨by with_unfolding_all rfl, rfl⟩, trivial⟩ ?_⟩
      · with_unfolding_all exact congrArg (fun l => [Ent.var (eWord w) [], Ent.row 1 l]) hL
    | succ k =>
      refine R [] ?_
      refine W.seq (C (fun h => ?_) (fun h => ?_))
      · have hk : k + 1 < 6 := by have := of_decide_eq_true h; omega
        refine W.skip (W.seq (W.block ?_))
        refine R [] (ho := by exact ⟨⟨by omega, by omega⟩, trivial⟩) ?_
        have h0 := hr (k + 1) (by omega)
        have h1 := i64_wrap (n := wordAt w (k + 1) + 1) (by omega) (by omega)
        have hL : encL w (k + 1) ++ [D.int .u8 (((#[(45 : UInt8), 48, 49, 50, 51, 52, 53, 54, 55, 56, 57] : Array UInt8).getD (IntKind.i64.wrap (wordAt w (k + 1) + 1)).toNat 0).toNat : Int)] = encL w (k + 2) := by rw [h1]; rfl
        refine R1 [] (ho := ?ob) ?_
        case ob => with_unfolding_all exact ⟨(show 0 ≤ IntKind.i64.wrap (wordAt w (k + 1) + 1) ∧ IntKind.i64.wrap (wordAt w (k + 1) + 1) < 11 from by rw [h1]; omega), rfl, enc_sizes w k _, enc_fits w k _ (by omega), trivial⟩
        refine R1 [] ?_
        refine ⟨k + 2, by omega, by omega, Le.cut _ 2 (by omega) ⟨⟨sl (congrArg (AV.row 1) hL), rfl⟩, ⟨by with_unfolding_all rfl, rfl⟩, ⟨sl_int (wrap_cast hk (by omega)), rfl⟩, trivial⟩ ?_⟩
        · with_unfolding_all exact congrArg (fun l => [Ent.var (eWord w) [], Ent.row 1 l]) hL
      · have hk : k = 5 := by have := of_decide_eq_false h; omega
        subst hk
        refine W.exit ?_
        refine R [] (ho := by exact ⟨encL_sizes w 6, trivial⟩) ?_
        refine W.ret (End 0 hn0 ⟨?_, rfl⟩)
        simp only [encS, if_pos hg, hg]; rfl

end Go.W
