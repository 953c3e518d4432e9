/-
  How much nodes say, in plain Lean.
-/
import Derived.Test.YthpjdjofcbnoiacFw
namespace Go.W

/-! ### How much is said -/

theorem flow_len {x : Run} (h : GoodR x) : (flowR x).out.length ≤ x.out.length + meas x.s := by
  have := (flow_ind (p := fun y => y.out.length + meas y.s ≤ x.out.length + meas x.s) (fun y z hg hp ho => by
    have := meas_one hg ho
    have := oneR_len ho
    omega) h (Nat.le_refl _)).1
  omega
theorem hearT_len (s : Node) (who : Int) (w : Word) : (hearT s who w).out.length ≤ 2000 := by
  by_cases h : (hearT s who w).err = 0
  · obtain ⟨h0, h1, h2, e⟩ := hearT_goes h
    have hg : GoodR ⟨hearN s w, who, []⟩ := ⟨h2.good.hear w, h2.ids⟩
    have := flow_len hg
    have := meas_bd hg.s
    rw [e]
    simp only [List.length_nil] at *
    omega
  · rw [(hearT_err h).2]; simp
theorem submitT_len (s : Node) (who v : Int) : (submitT s who v).out.length ≤ 2000 := by
  by_cases h : (submitT s who v).err = 0
  · obtain ⟨h0, h1, h2, h3, h4, e⟩ := submitT_goes h
    have hg : GoodR ⟨pushQ s v, who, []⟩ := ⟨h4.good.push h1 h2 h3, h4.ids⟩
    rw [e]
    unfold submitR
    simp only []
    split
    · have hg' := hg.start (k := s.round) (Int.le_refl _) h4.good.round.2
      have := flow_len hg'
      have := meas_bd hg'.s
      have := startR_len ⟨pushQ s v, who, []⟩ s.round
      simp only [List.length_nil] at *
      show (flowR (startR ⟨pushQ s v, who, []⟩ s.round)).out.length ≤ 2000
      omega
    · simp
  · rw [(submitT_err h).2]; simp
theorem timeT_len (s : Node) (who : Int) : (timeT s who).out.length ≤ 2000 := by
  by_cases h : (timeT s who).err = 0
  · obtain ⟨h0, h4⟩ := timeT_goes h
    by_cases h2 : 4 ≤ s.height
    · rw [timeT_2 h0 h2]; simp
    · rw [timeT_3 h0 h2]
      have hg : GoodR ⟨s, who, []⟩ := ⟨h4.good, h4.ids⟩
      have hg' := hg.time (show s.height < 4 by omega)
      have := flow_len hg'
      have := meas_bd hg'.s
      have := timeR_len ⟨s, who, []⟩
      simp only [List.length_nil] at *
      omega
  · rw [(timeT_err h).2]; simp

end Go.W
