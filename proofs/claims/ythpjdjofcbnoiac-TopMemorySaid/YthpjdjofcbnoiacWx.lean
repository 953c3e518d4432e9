/-
  The types of the laws' arguments; a contract gives the row.
-/
import Derived.Test.YthpjdjofcbnoiacWv
namespace Go.W

abbrev tInt : Ty := .int .i64
def tVotes : Ty := .arr 4 tInt
def tVotes4 : Ty := .arr 4 tVotes
def tVotes6 : Ty := .arr 6 tVotes
def tInts : Ty := .slice tInt
def tWord : Ty := .struct 6 fun | 0 => tInt | 1 => tInt | 2 => tInt | 3 => tInt | 4 => tInt | 5 => tInt | _ => .nil
def tCall : Ty := .struct 3 fun | 0 => .bool | 1 => tInt | 2 => tInt | _ => .nil
def tSheet : Ty := .struct 3 fun | 0 => .arr 6 tCall | 1 => tVotes6 | 2 => tVotes6 | _ => .nil
def tNode : Ty := .struct 11 fun | 0 => tInt | 1 => tInt | 2 => tInt | 3 => tInt | 4 => tInt | 5 => tInt | 6 => tInt | 7 => .arr 6 .bool | 8 => .arr 4 tSheet | 9 => tVotes | 10 => tInts | _ => .nil
def tAct : Ty := .struct 6 fun | 0 => tInt | 1 => tInt | 2 => tInt | 3 => tInt | 4 => tWord | 5 => tVotes | _ => .nil
def tActs : Ty := .slice tAct

/-- What is read of such a type is one of these. -/
def Reads {α : Type} (T : Ty) (e : α → D) : Prop := ∀ (w : World) (c : Nat → Value), ∃ x, dec w T c = e x

theorem rd_int : Reads tInt I := fun _ c => ⟨_, rfl⟩
theorem rd_bool : Reads .bool D.bool := fun _ c => ⟨_, rfl⟩
theorem rd_str : Reads .str D.str := fun _ c => ⟨_, rfl⟩
theorem rd_arr {α : Type} {E : Ty} {e : α → D} (n : Nat) (h : Reads E e) : Reads (.arr n E) fun f : Nat → α => .arr n E.size fun i => e (f i) := fun w c =>
  ⟨fun i => Classical.choose (h w fun o => c (i * E.size + o)), by simp only [dec]; congr 1; funext i; exact Classical.choose_spec (h w fun o => c (i * E.size + o))⟩
theorem rd_list {α : Type} {E : Ty} {e : α → D} (h : Reads E e) : Reads (.slice E) fun l : List α => .list (l.map e) := fun w c => by
  simp only [dec]
  split
  · rename_i a len cap _
    refine ⟨(List.range len).map fun i => Classical.choose (h w fun o => cellAt w a.block (a.off + i * E.size + o)), ?_⟩
    rw [List.map_map]
    congr 1
    refine List.map_congr_left fun i _ => ?_
    exact Classical.choose_spec (h w fun o => cellAt w a.block (a.off + i * E.size + o))
  · exact ⟨[], rfl⟩

theorem rd_votes : Reads tVotes eVotes := rd_arr 4 rd_int
theorem rd_votes4 : Reads tVotes4 eInts44 := rd_arr 4 rd_votes
theorem rd_votes6 : Reads tVotes6 eVotes6 := rd_arr 6 rd_votes
theorem rd_q : Reads tInts eQ := rd_list rd_int
theorem rd_word : Reads tWord eWord := fun w c => by
  refine ⟨⟨intOf (c 0), intOf (c 1), intOf (c 2), intOf (c 3), intOf (c 4), intOf (c 5)⟩, ?_⟩
  simp only [dec, tWord, eWord]
  congr 1
  funext i
  match i with
  | 0 => rfl
  | 1 => rfl
  | 2 => rfl
  | 3 => rfl
  | 4 => rfl
  | 5 => rfl
  | _ + 6 => rfl
theorem rd_call : Reads tCall eCall := fun w c => by
  refine ⟨⟨boolOf (c 0), intOf (c 1), intOf (c 2)⟩, ?_⟩
  simp only [dec, tCall, eCall]
  congr 1
  funext i
  match i with
  | 0 => rfl
  | 1 => rfl
  | 2 => rfl
  | _ + 3 => rfl
theorem rd_sheet : Reads tSheet eSheet := fun w c => by
  obtain ⟨a, ha⟩ := rd_arr 6 rd_call w fun o => c (0 + o)
  obtain ⟨b, hb⟩ := rd_votes6 w fun o => c (18 + o)
  obtain ⟨d, hd⟩ := rd_votes6 w fun o => c (42 + o)
  refine ⟨⟨a, b, d⟩, ?_⟩
  simp only [dec, tSheet, eSheet]
  congr 1
  funext i
  match i with
  | 0 => exact ha
  | 1 => exact hb
  | 2 => exact hd
  | _ + 3 => rfl
theorem rd_node : Reads tNode eNode := fun w c => by
  obtain ⟨a, ha⟩ := rd_arr 6 rd_bool w fun o => c (7 + o)
  obtain ⟨b, hb⟩ := rd_arr 4 rd_sheet w fun o => c (13 + o)
  obtain ⟨d, hd⟩ := rd_votes w fun o => c (277 + o)
  obtain ⟨q, hq⟩ := rd_q w fun o => c (281 + o)
  refine ⟨⟨intOf (c 0), intOf (c 1), intOf (c 2), intOf (c 3), intOf (c 4), intOf (c 5), intOf (c 6), a, b, d, q⟩, ?_⟩
  simp only [dec, tNode, eNode, eNodeQ]
  congr 1
  funext i
  match i with
  | 0 => rfl
  | 1 => rfl
  | 2 => rfl
  | 3 => rfl
  | 4 => rfl
  | 5 => rfl
  | 6 => rfl
  | 7 => exact ha
  | 8 => exact hb
  | 9 => exact hd
  | 10 => exact hq
  | _ + 11 => rfl
theorem rd_act : Reads tAct eAct := fun w c => by
  obtain ⟨a, ha⟩ := rd_word w fun o => c (4 + o)
  obtain ⟨b, hb⟩ := rd_votes w fun o => c (10 + o)
  refine ⟨⟨intOf (c 0), intOf (c 1), intOf (c 2), intOf (c 3), a, b⟩, ?_⟩
  simp only [dec, tAct, eAct]
  congr 1
  funext i
  match i with
  | 0 => rfl
  | 1 => rfl
  | 2 => rfl
  | 3 => rfl
  | 4 => exact ha
  | 5 => exact hb
  | _ + 6 => rfl
theorem rd_acts : Reads tActs eActs := rd_list rd_act

theorem arg_reads {P : Program} {tt : TT} (hT : TTok P tt) {H : Type} {enc : TypeId × Value → H} {w : World} {t : TypeId} {v : Value} {d : DataW H} {ps : List MemPlace} (n : Nat) {T : Ty} {α : Type} {e : α → D} (hr : Reads T e) (hb : tyB tt n t T = true)
    (hok : Value.okWide P w .any 0 t v) (h : DataW.Trod enc P w 0 (fun _ => true) true t v d ps) : ∃ x, VR ⟨w, fzAll w, [], []⟩ (.data (e x)) v := by
  obtain ⟨x, hx⟩ := hr w fun o => v.cells.getD o undef
  have := arg_VR hT n T hb hok h
  rw [hx] at this
  exact ⟨x, this⟩

def VRs (c : Cx) : List AV → List Value → Prop
  | [], [] => True
  | a :: r, v :: s => VR c a v ∧ VRs c r s
  | _, _ => False

theorem VRs.len {c : Cx} : ∀ {as : List AV} {vs : List Value}, VRs c as vs → vs.length = as.length
  | [], [], _ => rfl
  | _ :: _, _ :: _, h => by simp [VRs.len h.2]
theorem VRs.get {c : Cx} : ∀ {as : List AV} {vs : List Value}, VRs c as vs → ∀ i (h : i < as.length), VR c as[i] (vs.getD i undef)
  | _ :: _, _ :: _, h, 0, _ => h.1
  | _ :: _, _ :: _, h, i + 1, hi => VRs.get h.2 i (by simpa using hi)

theorem below_of_pure {P : Program} {f : FuncId} {args : List AV} (h : Pure P f args (.data (.bool true))) {w : World} {vs : List Value} (hv : VRs ⟨w, fzAll w, [], []⟩ args vs) :
    Calls P f vs.toArray w fun e w' => e = .returned (.bool true) ∧ Go.RowKit.Below w.heap.size w w' := by
  refine (h.2 ⟨w, fzAll w, [], []⟩ (.empty (fzAll_ok w)) rfl vs.toArray (by simpa using hv.len) fun i hi => by simpa using hv.get i hi).mono fun e w' => ?_
  rintro ⟨rv, v, c', rfl, rfl, h1, h2, h3, rfl, h4⟩
  refine ⟨?_, ?_⟩
  · cases h3 with
    | data h =>
      cases h with
      | bool h => simpa using h
  · exact ⟨h2.rest.2.1, h2.rest.1, h2.rest.2.2, h2.size, fun k hk => (h2.frame k hk (fun x hx => by simp at hx)).1⟩

end Go.W
