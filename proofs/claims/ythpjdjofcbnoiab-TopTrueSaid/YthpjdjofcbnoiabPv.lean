/-
  The words that are said: how many letters stay, and the map that is kept of them.
-/
import Derived.Test.YthpjdjofcbnoiabPu
namespace Go.W

/-- How many letters there were before, less the one that was dropped. -/
def keptN (a : Act) (r : Reply) (n : Nat) : Int := if a.kind = 3 ∧ r.code = 0 then (n : Int) - 1 else n
theorem doC_kept (c : CrowdS) (a : Act) (h : c.net.length ≤ 2000) : 0 ≤ keptN a (doC c a).2 c.net.length ∧ keptN a (doC c a).2 c.net.length ≤ (doC c a).1.net.length := by
  have same : ∀ (r : Reply), (a.kind ≠ 3 ∨ r.code ≠ 0) → keptN a r c.net.length = c.net.length := fun r hr => by
    unfold keptN
    rw [if_neg (fun h => by rcases hr with hr | hr; exact hr h.1; exact hr h.2)]
  unfold doC
  split
  · show 0 ≤ keptN a (errR 5) c.net.length ∧ keptN a (errR 5) c.net.length ≤ c.net.length
    rw [same (errR 5) (.inr (by show (5 : Int) ≠ 0; omega))]
    omega
  · rcases actC_cases c.tick a with ⟨e, he, h0⟩ | ⟨h6, he⟩ | ⟨h3, hn0, hn1, he⟩ | ⟨j, t, w, hj, h0, hm, he, hk⟩ <;> rw [he]
    · show 0 ≤ keptN a (errR e) c.net.length ∧ keptN a (errR e) c.net.length ≤ c.net.length
      rw [same (errR e) (.inr h0)]
      omega
    · show 0 ≤ keptN a (Act.read c.tick a) c.net.length ∧ keptN a (Act.read c.tick a) c.net.length ≤ c.net.length
      rw [same _ (.inl (by omega))]
      omega
    · show 0 ≤ keptN a (errR 0) c.net.length ∧ keptN a (errR 0) c.net.length ≤ (c.net.eraseIdx a.n.toNat).length
      have hn1 : a.n < c.net.length := hn1
      rw [List.length_eraseIdx_of_lt (by omega)]
      unfold keptN
      rw [if_pos ⟨h3, rfl⟩]
      omega
    · show 0 ≤ keptN a (sentR _) c.net.length ∧ keptN a (sentR _) c.net.length ≤ (sendL j t.out c.net).length
      rw [same _ (.inl (by rcases hk with ⟨g, _⟩ | ⟨g, _⟩ | ⟨g, _⟩ | ⟨g, _⟩ <;> omega))]
      have := (sendL_len j t.out c.net h).1
      omega

/-- What is said of a word. -/
def saidV (w : Word) : Int := IntKind.i64.wrap (w.value + 1)
/-- The map once the first k letters from m on have been looked at. -/
def saidF (m : Nat) (net : List Letter) (kvs : List (D × D)) : Nat → List (D × D)
  | 0 => kvs
  | k + 1 => setD (saidF m net kvs k) (eWord (keyW ((net.drop m).getD k Letter.zero).word)) (I (saidV ((net.drop m).getD k Letter.zero).word))

theorem getD_mem {α : Type} (l : List α) {k : Nat} (h : k < l.length) (z : α) : l.getD k z ∈ l := by
  rw [List.getD_eq_getElem?_getD, List.getElem?_eq_getElem h, Option.getD_some]
  exact List.getElem_mem h
theorem said_true {l : Int} {c : CrowdS} (h : Inv l c) {x : Letter} (hx : x ∈ c.net) (hl : x.word.frm ≠ l) : x.word.value + 1 = saidV x.word ∧ Rec (c.nodes x.word.frm.toNat) x.word := by
  have hr := (h.net x hx).2.2.2.2.2 hl
  have hv := hr.good.value
  refine ⟨?_, hr⟩
  unfold saidV
  rw [i64_wrap (by omega) (by omega)]
theorem saidF_ok {l : Int} {c : CrowdS} (h : Inv l c) {kvs : List (D × D)} (hk : SaidOK l c kvs) (m : Nat) : ∀ k, k ≤ (c.net.drop m).length → SaidOK l c (saidF m c.net kvs k)
  | 0, _ => hk
  | k + 1, hl => (saidF_ok h hk m k (by omega)).put fun hf => said_true h (List.mem_of_mem_drop (getD_mem _ (by omega) _)) hf

end Go.W
