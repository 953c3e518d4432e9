/-
  A call that only reads a variable, and hands back what it has made itself.
-/
import Derived.Test.YthpjdjofcbnoiacWp
import Derived.Test.YthpjdjofcbnoiacWl
namespace Go.W

theorem Fn.borrow {P : Program} {f : FuncId} {d d1 : D} {args1 : List AV} {p : List Nat} {xs : List D} {sz : Nat} {g : Nat → D}
    (h : Fn P f (.cptr d :: args1) [] (.rich d1 [(p, 0)]) [.row sz xs]) (hpl : ∀ a ∈ args1, ∃ e, a = .data e) (hag : d1.isAgg = true) (hget : d1.get p = some (.list xs)) (hne : xs ≠ [])
    (hf : ∀ i (h : i < xs.length), xs[i] = g i) (hsz : ∀ i, i < xs.length → (g i).size = sz) (hl : ∀ i, i < xs.length → noList (g i) = true)
    {c : Cx} (hc : CxOK c) {x : Nat} {tok : List (List Nat × Nat)} (hx : c.es[x]? = some (.var d tok)) {vals : Array Value} (hs : vals.size = args1.length + 1) (hv0 : VR c (.ptr x []) (vals.getD 0 undef)) (hv : ∀ i (h : i < args1.length), VR c args1[i] (vals.getD (i + 1) undef)) :
    Calls P f vals c.w fun e w' => ∃ cs c', e = .returned (.agg cs) ∧ cs.size = d1.size ∧ c'.w = w' ∧ CxOK c' ∧ Reach c c' ∧ c'.es = c.es ++ [.var (.arr xs.length sz g) []] ∧ VR c' (.sl c.es.length 0 xs.length xs.length) (cs.getD (d1.off p) undef) := by
  have hpos : 0 < xs.length := List.length_pos_iff.2 hne
  obtain ⟨c1, k1, k2, k3, k4, k5⟩ := Go.W.freeze hc hx
  let cz : Cx := ⟨c1.w, c1.fz, [], []⟩
  have hz : CxOK cz := {
    fr := k2.fr
    len := rfl
    inj := fun x y b h => by simp [cz] at h
    low := fun x b h => by simp [cz] at h
    ent := fun x e h => by simp [cz] at h }
  have h0 := h.2 cz hz rfl vals (by simpa using hs) (fun i hi => by
    cases i with
    | zero =>
      have h1 := k5 _ _ hv0
      have e : fzA x d (.ptr x []) = .cptr d := by
        have hb : Nat.beq x x = true := Nat.beq_refl x
        simp [fzA, fzA0, hb, D.get]
      rw [e] at h1
      show VR cz (.cptr d) _
      generalize vals.getD 0 undef = v at h1
      cases h1 with
      | cptr g1 g2 => exact .cptr g1 g2
    | succ i =>
      have hi' : i < args1.length := by simpa using hi
      obtain ⟨e, he⟩ := hpl args1[i] (List.getElem_mem hi')
      have h1 := k5 _ _ (hv i hi')
      show VR cz args1[i] _
      rw [he] at h1 ⊢
      have h1 : VR c1 (.data e) _ := h1
      generalize vals.getD (i + 1) undef = v at h1
      cases h1 with
      | data g1 => exact .data g1)
  rw [show cz.w = c.w from k1] at h0
  refine h0.mono fun e w' => ?_
  rintro ⟨rv, v, c2, rfl, rfl, hc2, hr2, hv2, rfl, he2⟩
  cases hv2 with
  | rich hd ht =>
  have hd' := hd
  unfold VD at hd
  simp only [hag] at hd
  obtain ⟨cs, rfl, hcs, hdr⟩ := hd
  obtain ⟨hp1, _, xs', hg, hrow⟩ := ht p 0 (List.mem_singleton.2 rfl)
  rw [hget] at hg
  simp only [Option.some.injEq, D.list.injEq] at hg
  subst hg
  obtain ⟨_, hrow2⟩ := hrow sz xs (by rw [he2]; rfl)
  obtain ⟨_, hrv⟩ := hrow2 rfl
  rcases hrv with ⟨_, h0, _⟩ | ⟨b, cap, cs2, T, q1, q2, q3, q4, q5, q6⟩
  · exact absurd h0 hne
  have q2 : cs.getD (d1.off p) undef = .slice (some ⟨b, 0, none⟩) xs.length cap := q2
  have hel : ∀ i, i < xs.length → DR c2.w c2.fz (g i) (fun o => cellAt c2.w b (i * sz + o)) := fun i hi => by
    have hd := hdr.at hp1 hget
    have hd : DR c2.w c2.fz (.list xs) (fun o => cs.getD (d1.off p + o) undef) := hd
    cases hd with
    | list0 h _ => simp at hpos
    | @list _ _ b' off cap' es' k1 k2 k3 k4 k5 k6 =>
      have k1 : cs.getD (d1.off p) undef = _ := k1
      rw [q2] at k1
      simp only [Value.slice.injEq, Option.some.injEq, Addr.mk.injEq] at k1
      obtain ⟨⟨rfl, rfl, _⟩, _, rfl⟩ := k1
      have e1 := k4 i hi
      rw [hf i hi, hsz i hi] at e1
      subst e1
      have := k5 i hi
      rw [hf i hi] at this
      simpa only [Nat.zero_add] using this
  have hge : c.w.heap.size ≤ b := by
    have := hr2.news 0 b (Nat.zero_le _) q1
    rwa [show cz.w = c.w from k1] at this
  have hfz1 : ∀ j, j < c.w.heap.size → c2.w.heap[j]? = c.w.heap[j]? := fun j hj => by
    have := (hr2.frame j (by rw [show cz.w = c.w from k1]; exact hj) (fun x h => by simp [cz] at h)).1
    rwa [show cz.w = c.w from k1] at this
  have hsize : c.w.heap.size ≤ c2.w.heap.size := by
    have := hr2.size
    rwa [show cz.w = c.w from k1] at this
  have hlen := hc2.len
  rw [he2] at hlen
  let fz' : Nat → Nat := fun j => if j < c.w.heap.size then c.fz j else 0
  let c3 : Cx := ⟨c2.w, fz', c2.lam, [.var (.arr xs.length sz g) []]⟩
  have hb2 : b < c2.w.heap.size := hc2.low 0 b q1
  have hcell : ∀ i o, i < xs.length → o < sz → cellAt c2.w b (i * sz + o) = cs2.getD (i * sz + o) undef := fun i o hi ho => by
    have : i * sz + o < cs2.size := Nat.lt_of_lt_of_le (mul_lt_of hi ho) (Nat.le_trans (Nat.mul_le_mul_right _ q5) q4)
    unfold cellAt
    rw [cell_of_block q3 this]; rfl
  have hcold : ∀ j o, j < c.w.heap.size → c2.w.cell? ⟨j, o, none⟩ = c.w.cell? ⟨j, o, none⟩ := fun j o hj => by
    simp only [World.cell?, hfz1 j hj]
  have hok3 : CxOK c3 := {
    fr := fun j o ho => by
      simp only [c3, fz'] at ho
      split at ho
      · rename_i hj
        obtain ⟨v, hv⟩ := hc.fr j o ho
        exact ⟨v, (hcold j o hj).trans hv⟩
      · omega
    len := hlen
    inj := hc2.inj
    low := hc2.low
    ent := fun x e hx => by
      have hx0 : x = 0 := by
        have := (List.getElem?_eq_some_iff.1 hx).1
        simp only [c3, List.length_cons, List.length_nil] at this
        omega
      subst hx0
      simp only [c3, List.getElem?_cons_zero, Option.some.injEq] at hx
      subst hx
      refine ⟨b, cs2, T, q1, q3, ?_, ?_, by simp only [c3, fz']; rw [if_neg (by omega)], fun p y hy => by cases hy⟩
      · show xs.length * sz ≤ cs2.size
        exact Nat.le_trans (Nat.mul_le_mul_right _ q5) q4
      · refine .arr hsz fun i hi => ?_
        refine ((hel i hi).noList (hl i hi)).congr fun o ho => ?_
        rw [hsz i hi] at ho
        exact (hcell i o hi ho).symm }
  have hr3 : Reach (c.sub [] []) c3 := {
    size := hsize
    rest := by have := hr2.rest; rwa [show cz.w = c.w from k1] at this
    ext := fun j => by
      refine ⟨?_, fun o ho => ?_⟩
      · show c.fz j ≤ fz' j
        simp only [fz']
        split
        · exact Nat.le_refl _
        · rename_i hj
          rw [hc.fr.high (by omega)]
          exact Nat.le_refl _
      · have ho : o < c.fz j := ho
        have hj : j < c.w.heap.size := by
          rcases Nat.lt_or_ge j c.w.heap.size with h | h
          · exact h
          · rw [hc.fr.high h] at ho; omega
        exact hcold j o hj
    keep := fun j cs T f hj => by
      have hj : c.w.heap[j]? = _ := hj
      have hl := (Array.getElem?_eq_some_iff.1 hj).1
      exact ⟨cs, (hfz1 j hl).trans hj, rfl⟩
    frame := fun j hj _ => by
      refine ⟨hfz1 j hj, ?_⟩
      show fz' j = c.fz j
      simp only [fz']
      exact if_pos hj
    ents := fun x e hx => by simp [Cx.sub] at hx
    news := fun x j _ hj => by
      have hj : c2.lam[x]? = some (some j) := hj
      have := hr2.news x j (Nat.zero_le _) hj
      rwa [show cz.w = c.w from k1] at this }
  obtain ⟨kk1, kk2⟩ := back_ok hc (m := []) (es0 := []) rfl rfl hr3 hok3
  refine ⟨cs, c.back c3 [], rfl, hcs, rfl, kk1, kk2, rfl, ?_⟩
  have hsl : VR c3 (.sl 0 0 xs.length xs.length) (cs.getD (d1.off p) undef) := by
    rw [q2]
    exact .sl (c := c3) (lo := 0) (n := xs.length) (k := xs.length) rfl (by omega) q1 ⟨q5, q5, fun _ => by simp⟩ q6 q3 (by simpa using q4)
  have := VR.push hc (m := []) (es0 := []) rfl rfl hr3 hok3 hsl
  exact this

/-- The first operations, then the rest. -/
theorem run_then {P : Program} {tt : TT} (hT : TTok P tt) {ops : Array Oper} {Q : Exit → Act → World → Prop} {c0 : Cx} {rest : List Oper} {s1 : St}
    (hrest : ∀ c act, CxOK c → Reach c0 c → c.es = s1.es → FR c act s1 → wpList P ops Q rest act c.w) : ∀ {l : List (Oper × Hint)} {s : St} {obs : List Prop}, run P tt ops l s = some (s1, obs) → AllP obs →
    ∀ {c : Cx}, CxOK c → c.es = s.es → Reach c0 c → ∀ {act : Act}, FR c act s → wpList P ops Q (l.map (·.1) ++ rest) act c.w := by
  intro l
  induction l with
  | nil =>
    intro s obs h ho c hc hes hr act hf
    simp only [run, Option.some.injEq, Prod.mk.injEq] at h
    obtain ⟨rfl, rfl⟩ := h
    exact hrest c act hc hr hes hf
  | cons p l ih =>
    obtain ⟨o', r⟩ := p
    intro s obs h ho c hc hes hr act hf
    simp only [run] at h
    split at h
    case h_2 => cases h
    rename_i s2 ob1 h1
    split at h
    case h_2 => cases h
    rename_i s3 ob2 h2
    simp only [Option.some.injEq, Prod.mk.injEq] at h
    obtain ⟨rfl, rfl⟩ := h
    obtain ⟨o1, o2⟩ := AllP_append ho
    exact wpList_step fun K hK => op_sound hT h1 o1 hc hes hf fun c' a' k1 k2 k3 k4 => hK _ _ (ih h2 o2 k1 k3 (hr.trans k2) k4)

/-- A region that calls what only reads a variable, and takes a part, made by the call, of what comes back. -/
theorem W.takeF {P : Program} {tt : TT} (hT : TTok P tt) {c0 : Cx} {Q : Exit → St → Prop} {s : St} {id : Nat} (l1 l2 : List Oper) {o1 o2 : Oper} {cl : Call} {fv : Operand} {k : FuncId} {T : TypeId} {fi t1 t2 x : Nat} {tok : List (List Nat × Nat)}
    {d d1 : D} {args1 : List AV} {p : List Nat} {xs : List D} {sz : Nat} {g : Nat → D} {ti te : TI} {fs : List (Nat × Nat × TypeId)} {off : Nat} {ty : TypeId} {s1 s2 : St}
    (hfn : Fn P k (.cptr d :: args1) [] (.rich d1 [(p, 0)]) [.row sz xs]) (hpl : ∀ a ∈ args1, ∃ e, a = .data e) (hag : d1.isAgg = true) (hget : d1.get p = some (.list xs)) (hne : xs ≠ [])
    (hf : ∀ i (h : i < xs.length), xs[i] = g i) (hsz : ∀ i, i < xs.length → (g i).size = sz) (hnl : ∀ i, i < xs.length → noList (g i) = true)
    (hop1 : o1.op = .call cl) (hg1 : o1.guard = none) (hd1 : o1.dst = some t1) (hcal : cl.callee = .value fv)
    (hop2 : o2.op = .field T (.tmp t1) fi) (hg2 : o2.guard = none) (hd2 : o2.dst = some t2)
    (h1 : run P tt (l1 ++ o1 :: o2 :: l2).toArray (zipR l1 []) s = some (s1, [])) (hlt1 : Nat.blt t1 s1.nt = true) (hlt2 : Nat.blt t2 s1.nt = true)
    (hl : s1.look [] fv = .func k []) (ha : cl.args.toList.map (s1.look []) = .ptr x [] :: args1) (hx : s1.es[x]? = some (.var d tok))
    (hti : tt.ti T = some ti) (hk : ti.kind = .struct fs) (hfs : fs[fi]? = some (off, 1, ty)) (hoff : d1.off p = off) (hte : tt.ti ty = some te) (hteA : te.agg = false) (hcsz : off < d1.size)
    (h2 : run P tt (l1 ++ o1 :: o2 :: l2).toArray (zipR l2 []) ((s1.put (some t1) (.v .undef) (s1.es ++ [.var (.arr xs.length sz g) []])).put (some t2) (.v (.sl s1.es.length 0 xs.length xs.length)) (s1.es ++ [.var (.arr xs.length sz g) []])) = some (s2, []))
    (hQ : Q .normal s2) : AWP P c0 (.region id (l1 ++ o1 :: o2 :: l2).toArray false) Q s := fun c act hc hr hes hfr => by
  refine wp_region_lit ?_
  have hz : l1 ++ o1 :: o2 :: l2 = (zipR l1 []).map (·.1) ++ o1 :: o2 :: l2 := by rw [zipR_fst]
  suffices hs : wpList P (l1 ++ o1 :: o2 :: l2).toArray (QQ c0 Q) ((zipR l1 []).map (·.1) ++ o1 :: o2 :: l2) act c.w by
    rw [zipR_fst] at hs; exact hs
  refine run_then hT (c0 := c0) (s1 := s1) (fun c act hc hr hes hfr => ?_) h1 trivial hc hes hr hfr
  clear h1 hz
  refine wpList_step (o := o1) (rest := o2 :: l2) fun K hK => ?_
  rw [if_pos (by simp [Region.wanted, hg1])]
  have look : ∀ y, VR c (s1.look [] y) (act.eval y) := look_sound hfr (g := []) (fun p hp => by simp at hp)
  have hfx := look fv
  rw [hl] at hfx
  generalize hfv : act.eval fv = fvv at hfx
  cases hfx with
  | @func _ _ cs h3 h4 =>
  have hcs : cs = #[] := by
    simp only [List.length_nil] at h3
    exact Array.eq_empty_of_size_eq_zero h3.symm
  subst hcs
  have hrun : (execOp act.eval o1).run P c.w = .ok (.enter k (cl.args.map act.eval ++ #[])) c.w := by
    simp [execOp, hop1, resolve, hcal, hfv, Deferred.ofValue, invoke, run_callFunc hfn.1]
  have hlen : cl.args.size = args1.length + 1 := by
    have := congrArg List.length ha
    simpa using this
  have hargs : ∀ i (h : i < cl.args.size), VR c ((AV.ptr x [] :: args1)[i]'(by simp; omega)) ((cl.args.map act.eval ++ #[]).getD i undef) := fun i h => by
    have e1 : (AV.ptr x [] :: args1)[i]'(by simp; omega) = s1.look [] cl.args[i] := by
      have : (AV.ptr x [] :: args1)[i]? = some (s1.look [] cl.args[i]) := by rw [← ha]; simp [h]
      have h' : i < (AV.ptr x [] :: args1).length := by simp; omega
      rw [List.getElem?_eq_getElem h'] at this
      exact Option.some.inj this
    have e2 : (cl.args.map act.eval ++ #[]).getD i undef = act.eval cl.args[i] := by simp [Array.getD, h]
    rw [e1, e2]
    exact look _
  have hcall := Fn.borrow hfn hpl hag hget hne hf hsz hnl hc (x := x) (tok := tok) (by rw [hes]; exact hx) (vals := cl.args.map act.eval ++ #[]) (by simpa using hlen) (hargs 0 (by omega)) (fun i hi => hargs (i + 1) (by omega))
  unfold Oper.wp
  rw [hrun]
  refine hcall.mono fun e w' => ?_
  rintro ⟨cs, c1, rfl, hcs1, rfl, hc1, hr1, he1, hv1⟩
  refine hK (act.put o1.dst (.agg cs)) c1.w ?_
  clear hK
  rw [hd1]
  have hf1 : FR c1 (act.put (some t1) (.agg cs)) (s1.put (some t1) (.v .undef) (s1.es ++ [.var (.arr xs.length sz g) []])) :=
    put_sound (x := .v .undef) hfr hr1 (fun d' hd' => by simp only [Option.some.injEq] at hd'; subst hd'; simpa [Nat.blt_eq] using hlt1) (fun _ _ => .undef _) _
  have hget1 : (act.put (some t1) (.agg cs)).eval (.tmp t1) = .agg cs := by
    have hsz : t1 < act.tmps.size := by rw [hfr.size]; simpa [Nat.blt_eq] using hlt1
    simp [Act.put, Act.eval, Array.getD, hsz]
  generalize act.put (some t1) (.agg cs) = act1 at hf1 hget1
  refine wpList_step (o := o2) (rest := l2) fun K hK => ?_
  rw [if_pos (by simp [Region.wanted, hg2])]
  obtain ⟨fields, g1, _, g2, _⟩ := tok_struct (hT.ti _ _ hti) hk
  obtain ⟨fd, g3, g4, g5, _⟩ := g2 fi off 1 ty hfs
  have hte' := tok_agg (hT.ti _ _ hte) c1.w
  have hcs : off < cs.size := by rw [hcs1]; exact hcsz
  have hpart : (part fd.type cs fd.offset).run P c1.w = .ok (cs.getD off undef) c1.w := by
    unfold part
    rw [g4, g5]
    have := hte'.1
    rw [hteA] at this
    simp [this, hcs]
  have hrun2 : (execOp act1.eval o2).run P c1.w = .ok (.value (cs.getD off undef)) c1.w := by
    have : (Instr.field T (.agg cs) fi).run P c1.w = .ok (cs.getD off undef) c1.w := by
      simp [Instr.field, run_underlying g1, g3, asAgg]
      rw [hpart]
      simp
    simp [execOp, hop2, hget1, this]
  unfold Oper.wp
  rw [hrun2]
  refine hK (act1.put o2.dst (cs.getD off undef)) c1.w ?_
  rw [hd2]
  rw [hoff] at hv1
  have hf2 := put_sound (x := .v (.sl s1.es.length 0 xs.length xs.length)) hf1 (.refl hc1) (d := some t2) (val := cs.getD off undef) (fun d' hd' => by simp only [Option.some.injEq] at hd'; subst hd'; show t2 < s1.nt; simpa [Nat.blt_eq] using hlt2) (fun _ _ => by rw [← hes]; exact hv1) (s1.es ++ [.var (.arr xs.length sz g) []])
  have hr1' := hr.trans hr1
  have hlast := run_sound (Q := QQ c0 Q) hT h2 trivial hc1 (by rw [he1, hes]; rfl) hf2 fun c2 a2 q1 q2 q3 q4 => ⟨c2, s2, rfl, q1, hr1'.trans q2, q3, q4, hQ⟩
  rw [zipR_fst] at hlast
  exact hlast

end Go.W
