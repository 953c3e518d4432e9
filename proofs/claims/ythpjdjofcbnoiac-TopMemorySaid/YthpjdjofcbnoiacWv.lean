/-
  From what a row says of its arguments to the machine's data; from a contract to the row.
-/
import Derived.Test.YthpjdjofcbnoiacWt
import Derived.ProofKit
import Derived.Below
import Derived.DataReads
import Derived.OpenShut
import Derived.WideShapes
namespace Go.W
open Go.WideShapes

inductive Ty where
  | nil
  | int (k : IntKind)
  | bool
  | str
  | arr (n : Nat) (e : Ty)
  | struct (n : Nat) (f : Nat → Ty)
  | slice (e : Ty)

def Ty.size : Ty → Nat
  | .arr n e => n * e.size
  | .struct n f => sumTo (fun i => (f i).size) n
  | _ => 1

def intOf : Value → Int
  | .int _ n => n
  | _ => 0
def boolOf : Value → Bool
  | .bool b => b
  | _ => false
def strOf : Value → ByteArray
  | .string s => s
  | _ => .empty

/-- The datum that the cells hold, read by a type. -/
def dec (w : World) : Ty → (Nat → Value) → D
  | .nil, _ => .nil
  | .int k, c => .int k (intOf (c 0))
  | .bool, c => .bool (boolOf (c 0))
  | .str, c => .str (strOf (c 0))
  | .arr n e, c => .arr n e.size fun i => dec w e fun o => c (i * e.size + o)
  | .struct n f, c => .agg n fun i => dec w (f i) fun o => c (sumTo (fun j => (f j).size) i + o)
  | .slice e, c => match c 0 with
    | .slice (some a) len _ => .list ((List.range len).map fun i => dec w e fun o => cellAt w a.block (a.off + i * e.size + o))
    | _ => .list []

theorem dec_size (w : World) : ∀ (T : Ty) (c : Nat → Value), (dec w T c).size = T.size
  | .nil, _ => rfl
  | .int _, _ => rfl
  | .bool, _ => rfl
  | .str, _ => rfl
  | .arr _ _, _ => rfl
  | .struct n f, c => by
    simp only [dec, D.size, Ty.size]
    congr 1
    funext i
    exact dec_size w (f i) _
  | .slice e, c => by
    simp only [dec, Ty.size]
    split <;> rfl

/-- Is the seat's type that one? -/
def tyB (tt : TT) : Nat → TypeId → Ty → Bool
  | 0, _, _ => false
  | n + 1, t, T => match tt.ti t with
    | none => false
    | some ti => Nat.beq ti.sz T.size && match ti.kind, T with
      | .int k, .int k' => kEq k k'
      | .bool, .bool => true
      | .str, .str => true
      | .array len _ e, .arr m E => Nat.beq len m && tyB tt n e E
      | .struct fs, .struct m F => Nat.beq fs.length m && allTo m fun i => match fs[i]? with
        | some (off, _, ty) => Nat.beq off (sumTo (fun j => (F j).size) i) && tyB tt n ty (F i)
        | none => false
      | .slice e _ _, .slice E => Nat.blt 0 E.size && tyB tt n e E
      | _, _ => false

theorem cellsOf_tok {P : Program} {t : TypeId} {ti : TI} (h : tokB P t ti = true) : P.cellsOf t = ti.sz := by
  obtain ⟨i, _, h1, _, h3⟩ := tok_info h
  simp [Program.cellsOf, h1, h3]

theorem getD_slice {cs : List Value} {a n o : Nat} (ho : o < n) : ((cs.drop a).take n).getD o undef = cs.getD (a + o) undef := by
  simp [List.getElem?_take, ho]

theorem mapM_at {α β : Type} {f : α → Option β} {l : List α} {r : List β} (h : l.mapM f = some r) {i : Nat} {x : α} (hx : l[i]? = some x) : ∃ y, f x = some y := by
  have h1 := mapM_some_get h i x hx
  have h2 := mapM_some_length h
  have h3 := (List.getElem?_eq_some_iff.1 hx).1
  exact ⟨r[i], by rw [h1, List.getElem?_eq_getElem]⟩

theorem wf_wrap64 {k : IntKind} {n : Int} (h : (Lit.int k n).wf = true) : k.wrap n = n := by
  cases k <;> simp [Lit.wf] at h <;> simp [IntKind.min, IntKind.max, IntKind.bits, IntKind.signed] at h <;> simp [IntKind.wrap, IntKind.bits, IntKind.signed] <;> omega

theorem tyB_size {P : Program} {tt : TT} (hT : TTok P tt) {n : Nat} {t : TypeId} {T : Ty} (h : tyB tt n t T = true) : P.cellsOf t = T.size := by
  cases n with
  | zero => simp [tyB] at h
  | succ n =>
    simp only [tyB] at h
    split at h
    · cases h
    · rename_i ti hti
      simp only [Bool.and_eq_true] at h
      rw [cellsOf_tok (hT.ti _ _ hti)]
      exact Nat.eq_of_beq_eq_true h.1

theorem getD_mid {cs : List Value} {a n o : Nat} (ho : o < n) : ((cs.drop a).take n).getD o undef = cs.getD (a + o) undef := by
  simp [List.getElem?_take, ho]

theorem cells?_at {w : World} {a : Addr} {n : Nat} {l : List Value} (h : w.cells? 0 a n = some l) : l.length = n ∧ ∀ o, o < n → w.cell? (a.add o) = some (l.getD o undef) := by
  unfold World.cells? at h
  rw [if_pos (Nat.zero_le _)] at h
  have h1 := mapM_some_length h
  simp at h1
  refine ⟨h1, fun o ho => ?_⟩
  have := mapM_some_get h o o (by simp [ho])
  rw [this]
  simp [List.getElem?_eq_getElem (show o < l.length by omega)]

theorem trod_dec {P : Program} {tt : TT} (hT : TTok P tt) {H : Type} {enc : TypeId × Value → H} {w : World} {sp : Nat → Bool} {held : Bool} : ∀ (n fuel : Nat) (t : TypeId) (T : Ty) (cs : List Value) (x : DataW H × List MemPlace),
    tyB tt n t T = true → DataW.trod enc P w 0 sp held fuel t cs = some x → ∀ c : Nat → Value, (∀ o, o < T.size → c o = cs.getD o undef) → cs.length = T.size ∧ DR w (fzAll w) (dec w T c) c
  | 0, _, _, _, _, _, hb, _ => by simp [tyB] at hb
  | n + 1, fuel, t, T, cs, x, hb, h => by
    intro c hc
    have hcells := tyB_size hT hb
    simp only [tyB] at hb
    split at hb
    · cases hb
    rename_i ti hti
    have htok := hT.ti _ _ hti
    simp only [Bool.and_eq_true] at hb
    obtain ⟨_, hb⟩ := hb
    have hk := tok_kind htok
    cases T with
    | nil => cases hki : ti.kind <;> simp [hki] at hb
    | int k' =>
      cases hki : ti.kind <;> simp only [hki] at hb <;> first | cases hb | skip
      rename_i k
      have := kEq_eq hb
      subst this
      obtain ⟨m, rfl, _, hw⟩ := DataW.trod_int (hk.1 _ hki) h
      have h0 : c 0 = .int k m := hc 0 (by simp [Ty.size])
      refine ⟨rfl, .int ?_ (wf_wrap64 ?_)⟩
      · simp only [h0, intOf]
      · simp only [h0, intOf]; exact hw
    | bool =>
      cases hki : ti.kind <;> simp only [hki] at hb <;> first | cases hb | skip
      obtain ⟨b, rfl, _⟩ := DataW.trod_bool (hk.2.1 hki) h
      have h0 : c 0 = .bool b := hc 0 (by simp [Ty.size])
      exact ⟨rfl, .bool (by simp only [h0, boolOf])⟩
    | str =>
      cases hki : ti.kind <;> simp only [hki] at hb <;> first | cases hb | skip
      obtain ⟨b, rfl, _, hs⟩ := DataW.trod_string (hk.2.2 hki) h
      have h0 : c 0 = .string b := hc 0 (by simp [Ty.size])
      refine ⟨rfl, .str ?_ ?_⟩
      · simp only [h0, strOf]
      · simp only [h0, strOf]; exact hs
    | arr m E =>
      cases hki : ti.kind <;> simp only [hki] at hb <;> first | cases hb | skip
      rename_i len es e
      simp only [Bool.and_eq_true] at hb
      have := Nat.eq_of_beq_eq_true hb.1
      subst this
      obtain ⟨hu, _, _, _⟩ := tok_array htok hki
      obtain ⟨xs, fu, hfu, _, hlen, hxl, hall⟩ := DataW.trod_array hu h
      have hce := tyB_size hT hb.2
      rw [hcells] at hlen
      refine ⟨hlen, .arr (fun i _ => dec_size w E _) fun i hi => ?_⟩
      have h1 := hall i hi
      rw [hce, List.getElem?_eq_getElem (by omega)] at h1
      refine (trod_dec hT n fu e E _ _ hb.2 h1 _ fun o ho => ?_).2
      rw [hc _ (by simp only [Ty.size]; exact mul_lt_of hi ho), getD_mid ho]
    | struct m F =>
      cases hki : ti.kind <;> simp only [hki] at hb <;> first | cases hb | skip
      rename_i fs
      simp only [Bool.and_eq_true, allTo_spec] at hb
      have hm := Nat.eq_of_beq_eq_true hb.1
      obtain ⟨fields, hu, hfl, hfa, _⟩ := tok_struct htok hki
      obtain ⟨xs, fu, hfu, _, hlen, hxl, hall⟩ := DataW.trod_struct hu h
      rw [hcells] at hlen
      refine ⟨hlen, .agg fun i hi => ?_⟩
      have hbi := hb.2 i hi
      split at hbi
      case h_2 => cases hbi
      rename_i off sz ty hfs
      simp only [Bool.and_eq_true] at hbi
      have hoff := Nat.eq_of_beq_eq_true hbi.1
      obtain ⟨f, k1, k2, k3, _⟩ := hfa i off sz ty hfs
      have h1 := hall i f k1
      have hce := tyB_size hT hbi.2
      rw [k3, hce, k2, List.getElem?_eq_getElem (by omega)] at h1
      have hsum : sumTo (fun j => (dec w (F j) fun o => c (sumTo (fun j => (F j).size) j + o)).size) i = sumTo (fun j => (F j).size) i := by
        congr 1
        funext j
        exact dec_size w _ _
      rw [hsum]
      refine (trod_dec hT n fu ty (F i) _ _ hbi.2 h1 _ fun o ho => ?_).2
      rw [hc _ (by simp only [Ty.size]; exact sumTo_lt (fun j => (F j).size) hi ho), getD_mid ho, hoff]
    | slice E =>
      cases hki : ti.kind <;> simp only [hki] at hb <;> first | cases hb | skip
      rename_i e es by_
      simp only [Bool.and_eq_true] at hb
      have hpos : 0 < E.size := by simpa [Nat.blt_eq] using hb.1
      obtain ⟨hu, _, _⟩ := tok_slice htok hki
      have hce := tyB_size hT hb.2
      rcases DataW.trod_slice hu h with ⟨rfl, _⟩ | ⟨a, len, cap, elems, rest, fu, hfu, rfl, _, _, hl, hm, hel, hall, _⟩
      · have h0 : c 0 = .slice none 0 0 := hc 0 (by simp [Ty.size])
        refine ⟨rfl, ?_⟩
        simp only [dec, h0]
        exact .list0 h0 (Nat.zero_le _)
      · have h0 : c 0 = .slice (some a) len cap := hc 0 (by simp [Ty.size])
        refine ⟨rfl, ?_⟩
        simp only [dec, h0]
        rcases Nat.eq_zero_or_pos len with hz | hz
        · subst hz
          exact .list0 h0 hm
        · have hat : ∀ i, i < len → ∃ l, w.cells? 0 (a.add (i * E.size)) E.size = some l ∧ DataW.trod enc P w 0 sp held fu e l = elems[i]? := fun i hi => by
            have h1 := hall i hi
            rw [hce, List.getElem?_eq_getElem (by omega)] at h1
            obtain ⟨l, h2, h3⟩ := Option.bind_eq_some_iff.1 h1
            exact ⟨l, h2, by rw [h3, List.getElem?_eq_getElem (by omega)]⟩
          obtain ⟨b, off, spot⟩ := a
          have hspot : spot = none := by
            obtain ⟨l, h1, _⟩ := hat 0 hz
            obtain ⟨_, h2⟩ := cells?_at h1
            have := h2 0 hpos
            simp only [Nat.zero_mul, Addr.add, if_true] at this
            exact World.cell?_spot this
          subst hspot
          have hcell : ∀ i, i < len → ∃ l, DataW.trod enc P w 0 sp held fu e l = elems[i]? ∧ ∀ o, o < E.size → w.cell? ⟨b, off + i * E.size + o, none⟩ = some (l.getD o undef) := fun i hi => by
            obtain ⟨l, h1, h2⟩ := hat i hi
            obtain ⟨_, h3⟩ := cells?_at h1
            refine ⟨l, h2, fun o ho => ?_⟩
            have := h3 o ho
            rwa [Addr.add_mid, Addr.add_mid] at this
          refine .list (es := E.size) (by simpa using h0) (by simpa using hl) hm (fun i hi => by simp [dec_size]) (fun i hi => ?_) ?_
          · simp only [List.length_map, List.length_range] at hi
            simp only [List.getElem_map, List.getElem_range]
            obtain ⟨l, h1, h2⟩ := hcell i hi
            rw [List.getElem?_eq_getElem (by omega)] at h1
            refine (trod_dec hT n fu e E l _ hb.2 h1 _ fun o ho => ?_).2
            simp only [cellAt, h2 o ho, Option.getD_some]
          · simp only [List.length_map, List.length_range]
            obtain ⟨l, _, h2⟩ := hcell (len - 1) (by omega)
            have h3 := fzAll_lt (h2 (E.size - 1) (by omega))
            have h4 : (len - 1) * E.size + E.size = len * E.size := by
              have := Nat.sub_add_cancel hz
              calc (len - 1) * E.size + E.size = (len - 1 + 1) * E.size := by rw [Nat.add_mul]; omega
                _ = len * E.size := by rw [this]
            omega

/-- An argument, as the machine sees it. -/
theorem arg_VR {P : Program} {tt : TT} (hT : TTok P tt) {H : Type} {enc : TypeId × Value → H} {w : World} {t : TypeId} {v : Value} {d : DataW H} {ps : List MemPlace} (n : Nat) (T : Ty) (hb : tyB tt n t T = true)
    (hok : Value.okWide P w .any 0 t v) (h : DataW.Trod enc P w 0 (fun _ => true) true t v d ps) : VR ⟨w, fzAll w, [], []⟩ (.data (dec w T fun o => v.cells.getD o undef)) v := by
  obtain ⟨fuel, h⟩ := h
  obtain ⟨h1, h2⟩ := trod_dec hT n fuel t T v.cells.toList _ hb h (fun o => v.cells.getD o undef) (fun o _ => by simp)
  refine .data ?_
  unfold VD
  split
  · rename_i hag
    have : ∃ cs, v = .agg cs := by
      cases n with
      | zero => simp [tyB] at hb
      | succ n =>
        simp only [tyB] at hb
        split at hb
        · cases hb
        rename_i ti hti
        have htok := hT.ti _ _ hti
        simp only [Bool.and_eq_true] at hb
        cases T with
        | arr m E =>
          cases hki : ti.kind <;> simp only [hki] at hb <;> first | (cases hb.2; done) | skip
          have hu := (tok_array htok hki).1
          simp only [Value.okWide, hu] at hok
          obtain ⟨cs, h, _⟩ := hok
          exact ⟨cs, h⟩
        | struct m F =>
          cases hki : ti.kind <;> simp only [hki] at hb <;> first | (cases hb.2; done) | skip
          obtain ⟨fields, hu, _⟩ := tok_struct htok hki
          simp only [Value.okWide, hu] at hok
          obtain ⟨cs, h, _⟩ := hok
          exact ⟨cs, h⟩
        | slice E =>
          simp only [dec] at hag
          split at hag <;> cases hag
        | _ => simp [dec, D.isAgg] at hag
    obtain ⟨cs, rfl⟩ := this
    refine ⟨cs, rfl, ?_, h2⟩
    rw [dec_size]
    simpa [Value.cells] using h1
  · rename_i hag
    have hs : T.size = 1 := by
      have := size_leaf hag
      rwa [dec_size] at this
    have hcell : v.cells = #[v] := by
      have : ∀ cs, v ≠ .agg cs := by
        intro cs hv
        cases n with
        | zero => simp [tyB] at hb
        | succ n =>
          simp only [tyB] at hb
          split at hb
          · cases hb
          rename_i ti hti
          have htok := hT.ti _ _ hti
          have hk := tok_kind htok
          simp only [Bool.and_eq_true] at hb
          cases T with
          | nil => cases hki : ti.kind <;> simp [hki] at hb
          | int k =>
            cases hki : ti.kind <;> simp only [hki] at hb <;> first | (cases hb.2; done) | skip
            obtain ⟨x, hx⟩ := okWide_int (hk.1 _ hki) hok
            rw [hv] at hx; cases hx
          | bool =>
            cases hki : ti.kind <;> simp only [hki] at hb <;> first | (cases hb.2; done) | skip
            obtain ⟨x, hx⟩ := okWide_bool (hk.2.1 hki) hok
            rw [hv] at hx; cases hx
          | str =>
            cases hki : ti.kind <;> simp only [hki] at hb <;> first | (cases hb.2; done) | skip
            obtain ⟨x, hx⟩ := okWide_string (hk.2.2 hki) hok
            rw [hv] at hx; cases hx
          | slice E =>
            cases hki : ti.kind <;> simp only [hki] at hb <;> first | (cases hb.2; done) | skip
            obtain ⟨x, _, _, hx⟩ := okWide_slice (tok_slice htok hki).1 hok
            rw [hv] at hx; cases hx
          | arr m E => simp [dec, D.isAgg] at hag
          | struct m F => simp [dec, D.isAgg] at hag
      cases v with
      | agg cs => exact absurd rfl (this cs)
      | _ => rfl
    refine h2.congr fun o ho => ?_
    rw [dec_size, hs] at ho
    have : o = 0 := by omega
    subst this
    rw [hcell]; rfl

end Go.W
