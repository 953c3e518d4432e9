/-
  Letters that come twice; acts that are refused; in plain Lean.
-/
import Derived.Test.YthpjdjofcbnoiacPj
namespace Go.W

theorem sendW_pre (frm : Int) (w : Word) (net : List Letter) : ∀ k, ∃ m, sendW frm w net k = net ++ m
  | 0 => ⟨[], by simp [sendW]⟩
  | k + 1 => by
    obtain ⟨m, e⟩ := sendW_pre frm w net k
    simp only [sendW]
    split
    · exact ⟨m ++ [⟨k, w⟩], by rw [e, List.append_assoc]⟩
    · exact ⟨m, e⟩
theorem sendL_pre (frm : Int) : ∀ (l : List Word) (net : List Letter), ∃ m, sendL frm l net = net ++ m
  | [], net => ⟨[], by simp [sendL]⟩
  | w :: l, net => by
    obtain ⟨m, e⟩ := sendW_pre frm w net 4
    obtain ⟨m', e'⟩ := sendL_pre frm l (sendW frm w net 4)
    refine ⟨m ++ m', ?_⟩
    have : sendL frm (w :: l) net = sendL frm l (sendW frm w net 4) := by simp [sendL]
    rw [this, e', e, List.append_assoc]

/-- A letter is delivered. -/
def letA (n : Int) : Act := ⟨2, 0, n, 0, .zero, fun _ => 0⟩
structure Alike (c g : CrowdS) : Prop where
  nodes : ∀ i, i < 4 → c.nodes i = g.nodes i
  net : c.net = g.net

theorem actC_let (c : CrowdS) (n : Int) : actC c (letA n) = if n < 0 ∨ (c.net.length : Int) ≤ n then (c, errR 4) else Act.deliver c (c.net.getD n.toNat Letter.zero) := by
  have k : (letA n).kind = 2 := rfl
  have k3 : ¬ (letA n).kind = 3 := by omega
  unfold actC
  rw [if_neg (by omega), if_neg (by omega), if_pos (.inl k)]
  by_cases hr : n < 0 ∨ (c.net.length : Int) ≤ n
  · rw [if_pos hr]; exact if_pos hr
  · rw [if_neg hr]; exact (if_neg hr).trans (if_neg k3)
theorem doC_let {c : CrowdS} (n : Int) (h : c.acts < 600) : doC c (letA n) = actC c.tick (letA n) := by unfold doC; rw [if_neg (by omega)]

theorem again {c : CrowdS} (n : Int) (h : c.acts < 599) : (doC (doC c (letA n)).1 (letA n)).2.code = (doC c (letA n)).2.code ∧ (doC (doC c (letA n)).1 (letA n)).2.n = 0 ∧ Alike (doC (doC c (letA n)).1 (letA n)).1 (doC c (letA n)).1 := by
  have hac := doC_acts c (letA n) (by omega)
  generalize hy : doC c (letA n) = y at hac
  rw [doC_let n (by omega), actC_let] at hy
  rw [doC_let n (by omega), actC_let]
  by_cases hr : n < 0 ∨ (c.net.length : Int) ≤ n
  · have hr' : n < 0 ∨ (c.tick.net.length : Int) ≤ n := hr
    rw [if_pos hr'] at hy
    subst hy
    rw [if_pos (show n < 0 ∨ (c.tick.tick.net.length : Int) ≤ n from hr)]
    exact ⟨rfl, rfl, fun _ _ => rfl, rfl⟩
  · rw [if_neg (show ¬ (n < 0 ∨ (c.tick.net.length : Int) ≤ n) from hr)] at hy
    unfold Act.deliver at hy
    have hx : c.tick.net.getD n.toNat Letter.zero = c.net.getD n.toNat Letter.zero := rfl
    rw [hx] at hy
    generalize hxx : c.net.getD n.toNat Letter.zero = x at hy
    rcases turnC_cases c.tick x.to (hearT (c.tick.nodes x.to.toNat) x.to x.word) with ⟨e, he, h0⟩ | ⟨g1, g2, g3, g4⟩
    · rw [he] at hy
      subst hy
      rw [if_neg (show ¬ (n < 0 ∨ (c.tick.tick.net.length : Int) ≤ n) from hr)]
      have hx2 : c.tick.tick.net.getD n.toNat Letter.zero = x := hxx
      show (Act.deliver c.tick.tick (c.tick.tick.net.getD n.toNat Letter.zero)).2.code = e ∧ _
      rw [hx2]
      have he2 : Act.deliver c.tick.tick x = (c.tick.tick, errR e) := by
        unfold Act.deliver
        unfold turnC at he ⊢
        split at he
        · rename_i q; rw [if_pos q]; simp only [Prod.mk.injEq, true_and] at he ⊢; exact he
        · rename_i q
          rw [if_neg q]
          split at he
          · rename_i q2
            rw [if_pos (show (hearT (c.tick.tick.nodes x.to.toNat) x.to x.word).err ≠ 0 from q2)]
            simp only [Prod.mk.injEq, true_and] at he ⊢; exact he
          · exfalso
            have := congrArg (fun z => z.2.code) he
            exact h0 this.symm
      rw [he2]
      exact ⟨rfl, rfl, fun _ _ => rfl, rfl⟩
    · rw [g4] at hy
      have hj : x.to = (x.to.toNat : Int) := by omega
      generalize x.to.toNat = j at hj g3 hy
      rw [hj] at g3 hy
      subst hy
      obtain ⟨m, hm⟩ := sendL_pre j (hearT (c.tick.nodes j) j x.word).out c.net
      have hq := hearT_quiet g3
      generalize hearT (c.tick.nodes j) j x.word = t at hm hq g3 ⊢
      have hlen : c.net.length ≤ (sendL j t.out c.net).length := by rw [hm, List.length_append]; omega
      have hlt : n.toNat < c.net.length := by omega
      have hget : (sendL j t.out c.net).getD n.toNat Letter.zero = x := by
        rw [hm, List.getD_eq_getElem?_getD, List.getElem?_append_left hlt, ← List.getD_eq_getElem?_getD, hxx]
      simp only []
      generalize hC : CrowdS.tick { nodes := upd c.tick.nodes j t.s, net := sendL (j : Int) t.out c.tick.net, liar := c.tick.liar, acts := c.tick.acts } = C
      have hCn : C.net = sendL j t.out c.net := by rw [← hC]; rfl
      have hCd : C.nodes = upd c.nodes j t.s := by rw [← hC]; rfl
      have hq' : hearT (C.nodes j) j x.word = ⟨t.s, [], 0⟩ := by rw [hCd, upd_same]; exact hq
      have hd : Act.deliver C x = ({ C with nodes := upd C.nodes j t.s, net := C.net }, sentR 0) := by
        unfold Act.deliver
        rw [hj, Int.toNat_natCast, hq']
        unfold turnC
        rw [if_neg (by omega), if_neg (by simp)]
        simp [sendL]
      rw [hCn, if_neg (show ¬ (n < 0 ∨ ((sendL j t.out c.net).length : Int) ≤ n) by omega), hget, hd]
      refine ⟨rfl, rfl, fun i hi => ?_, hCn⟩
      show upd C.nodes j t.s i = upd c.nodes j t.s i
      rw [hCd]
      by_cases e : i = j
      · subst e; rw [upd_same, upd_same]
      · rw [upd_other _ _ e]

/-- What is refused, or only reads, changes nothing. -/
theorem refused {c : CrowdS} (a : Act) (h : c.acts < 600) : ((doC c a).2.code = 0 ∧ a.kind ≠ 6) ∨ (¬ ((doC c a).2.code = 0 ∧ a.kind ≠ 6) ∧ (doC c a).2.n = 0 ∧ Alike (doC c a).1 c) := by
  have e : doC c a = actC c.tick a := by unfold doC; rw [if_neg (by omega)]
  rw [e]
  rcases actC_cases c.tick a with ⟨e, he, hne⟩ | ⟨h6, he⟩ | ⟨h3, _, _, he⟩ | ⟨j, t, w, _, _, _, he, hk⟩ <;> rw [he]
  · exact .inr ⟨fun g => hne g.1, rfl, fun _ _ => rfl, rfl⟩
  · exact .inr ⟨fun g => g.2 h6, rfl, fun _ _ => rfl, rfl⟩
  · exact .inl ⟨rfl, by omega⟩
  · refine .inl ⟨rfl, ?_⟩
    rcases hk with ⟨g, _⟩ | ⟨g, _⟩ | ⟨g, _⟩ | ⟨g, _⟩ <;> omega

/-- As many have been done. -/
def acted (c : CrowdS) (i : Nat) : CrowdS := { c with acts := i }
theorem doC_zero (c : CrowdS) {i : Nat} (hi : i < 600) : doC (acted c i) Act.zero = (acted c (i + 1), errR 3) := by
  have k : Act.zero.kind = 0 := rfl
  have ha : (acted c i).acts = i := rfl
  unfold doC
  rw [if_neg (by omega)]
  unfold actC
  rw [if_neg (by omega), if_neg (by omega), if_neg (by omega), if_neg (by omega), if_neg (by omega)]
  rfl
theorem doC_full {c : CrowdS} (a : Act) : doC (acted c 600) a = (acted c 600, errR 5) := by
  unfold doC
  rw [if_pos (by show (600 : Int) ≤ ((600 : Nat) : Int); omega)]

end Go.W
