/- An abstract evaluator, part 6: operations on memory. -/
import Derived.Test.YtfklgafihefpeaaEv5
set_option linter.unusedVariables false
set_option linter.unusedSimpArgs false
namespace Go.Ev
open Go.RowKit

/-! ### rows of cells -/
theorem RepC_list {c : Cx} : ∀ {cs : List AV} {b off : Nat}, RepC c cs b off → ∃ vs, RepL c cs vs ∧ ∀ j v, vs[j]? = some v → c.w.cell? ⟨b, off + j, none⟩ = some v
  | [], b, off => fun _ => ⟨[], by simp only [RepL], by simp⟩
  | x :: xs, b, off => fun h => by
    simp only [RepC] at h
    obtain ⟨⟨v, hv, ho, hx⟩, h⟩ := h
    obtain ⟨vs, h1, h2⟩ := RepC_list h
    refine ⟨v :: vs, by simp only [RepL]; exact ⟨v, vs, rfl, ho, hx, h1⟩, fun j u hj => ?_⟩
    cases j with
    | zero => simp only [List.getElem?_cons_zero, Option.some.injEq] at hj; subst hj; exact hv
    | succ j =>
      rw [List.getElem?_cons_succ] at hj
      have := h2 j u hj
      rwa [show off + 1 + j = off + (j + 1) by omega] at this

theorem RepC_of {c : Cx} {cs : List AV} {vs : List Value} {b off : Nat} (h : RepL c cs vs) (hc : ∀ j v, vs[j]? = some v → c.w.cell? ⟨b, off + j, none⟩ = some v) : RepC c cs b off :=
  RepC_iff.2 fun j x hj => let ⟨v, hv, ho, hx⟩ := (RepL_iff.1 h).2 j x hj; ⟨v, hc j v hv, ho, hx⟩

theorem RepC_row {c : Cx} {cs : List AV} {cur : Array Value} {b : Nat} {e : TypeId} {fr : Nat × Nat} (hb : c.w.heap[b]? = some (.cells cur e fr)) (h : RepL c cs cur.toList) : RepC c cs b 0 :=
  RepC_of h fun j v hj => by
    rw [Nat.zero_add, cell_of_row c.w b j cur e fr hb]
    simpa using hj

theorem RepC_drop {c : Cx} {cs : List AV} {b off : Nat} (h : RepC c cs b off) (k : Nat) : RepC c (cs.drop k) b (off + k) :=
  RepC_iff.2 fun j x hj => by
    rw [List.getElem?_drop] at hj
    have := RepC_iff.1 h (k + j) x hj
    rwa [← Nat.add_assoc] at this

theorem RepC_take {c : Cx} {cs : List AV} {b off : Nat} (h : RepC c cs b off) (k : Nat) : RepC c (cs.take k) b off :=
  RepC_iff.2 fun j x hj => RepC_iff.1 h j x (by
    rw [List.getElem?_take] at hj
    split at hj
    · exact hj
    · cases hj)

theorem setCells_length : ∀ (vs cs : List AV) (k : Nat), (setCells cs k vs).length = cs.length
  | [], _, _ => rfl
  | v :: vs, cs, k => by simp only [setCells]; rw [setCells_length vs, List.length_set]

theorem setCells_get : ∀ (vs cs : List AV) (k j : Nat), k + vs.length ≤ cs.length → (setCells cs k vs)[j]? = if k ≤ j ∧ j < k + vs.length then vs[j - k]? else cs[j]?
  | [], cs, k, j => fun _ => by rw [if_neg (by simp)]; rfl
  | v :: vs, cs, k, j => fun h => by
    simp only [setCells]
    simp only [List.length_cons] at h ⊢
    rw [setCells_get vs (cs.set k v) (k + 1) j (by rw [List.length_set]; omega)]
    by_cases h1 : k + 1 ≤ j ∧ j < k + 1 + vs.length
    · rw [if_pos h1, if_pos (by omega), show j - k = (j - (k + 1)) + 1 by omega, List.getElem?_cons_succ]
    · rw [if_neg h1]
      by_cases h2 : k = j
      · subst h2
        rw [if_pos (by omega), List.getElem?_set_self (by omega)]
        simp
      · rw [List.getElem?_set_ne h2, if_neg (by omega)]

/-- A row, some of whose cells were written. -/
theorem splice_get (cur : List Value) (k : Nat) (vs : List Value) (j : Nat) (h : k + vs.length ≤ cur.length) :
    (cur.take k ++ vs ++ cur.drop (k + vs.length))[j]? = if k ≤ j ∧ j < k + vs.length then vs[j - k]? else cur[j]? := by
  by_cases h1 : j < k
  · rw [if_neg (by omega), List.append_assoc, List.getElem?_append_left (by rw [List.length_take]; omega), List.getElem?_take, if_pos h1]
  · by_cases h2 : j < k + vs.length
    · rw [if_pos (by omega), List.getElem?_append_left (by rw [List.length_append, List.length_take]; omega), List.getElem?_append_right (by rw [List.length_take]; omega)]
      congr 1
      rw [List.length_take]
      omega
    · rw [if_neg (by omega), List.getElem?_append_right (by rw [List.length_append, List.length_take]; omega), List.getElem?_drop]
      congr 1
      rw [List.length_append, List.length_take]
      omega

theorem RepC_write {c c' : Cx} (hle : c.Le c') {cs : List AV} {b off k : Nat} {avs : List AV} {vs : List Value} {cur : Array Value} {e : TypeId} (hb : c.w.heap[b]? = some (.cells cur e (0, 0)))
    (hb' : c'.w.heap[b]? = some (.cells (cur.toList.take (off + k) ++ vs ++ cur.toList.drop (off + k + vs.length)).toArray e (0, 0))) (hr : RepC c cs b off) (hv : RepL c avs vs) (hk : k + avs.length ≤ cs.length)
    (hfit : off + cs.length ≤ cur.size) : RepC c' (setCells cs k avs) b off := by
  have hl := RepL_length hv
  refine RepC_iff.2 fun j x hj => ?_
  rw [setCells_get avs cs k j hk] at hj
  rw [cell_of_row c'.w b (off + j) _ e (0, 0) hb']
  have hcl : cur.toList.length = cur.size := Array.length_toList
  have hg := splice_get cur.toList (off + k) vs (off + j) (by omega)
  rw [List.getElem?_toArray, hg]
  by_cases h1 : k ≤ j ∧ j < k + avs.length
  · rw [if_pos h1] at hj
    rw [if_pos (by omega), show off + j - (off + k) = j - k by omega]
    obtain ⟨v, h2, h3, h4⟩ := (RepL_iff.1 hv).2 (j - k) x hj
    exact ⟨v, h2, h3, RepV.mono hle _ _ h4⟩
  · rw [if_neg h1] at hj
    rw [if_neg (by omega)]
    obtain ⟨v, h2, h3, h4⟩ := RepC_iff.1 hr j x hj
    rw [cell_of_row c.w b (off + j) cur e (0, 0) hb] at h2
    exact ⟨v, by simpa using h2, h3, RepV.mono hle _ _ h4⟩

section
variable {P : Program} {X : Nat → Prop} {n : Nat} {base : Base} {w0 w : World} {st : St} {a : Act} {β : Nat → Nat → Option Nat} {o : Oper} {K : Kont}

/-! ### addresses -/
theorem run_fieldAt {w : World} {s : TypeId} {fs : Array Field} {f : Nat} {fd : Field} {i : TypeInfo} (hu : P.underlying s = some (.struct fs)) (hf : fs[f]? = some fd) (hi : P.info? fd.type = some i) (hz : i.size ≠ 0) (b k : Nat) :
    (Instr.fieldAt s (.pointer (some ⟨b, k, none⟩)) f).run P w = .ok (.pointer (some ⟨b, k + fd.offset, none⟩)) w := by
  simp [Instr.fieldAt, run_underlying hu, hf, Instr.sureAddr, fieldPlace, sizeOf, typeInfo, hi, hz, Addr.add_lit]

theorem op_faddr (hs : Sim X n base w0 st a w β) (hd : ∀ d, o.dst = some d → d < n) {s : TypeId} {f : Nat} {x : Operand} (ho : o.op = .fieldAddr s x f)
    {fs : Array Field} {fd : Field} {i : TypeInfo} (hu : P.underlying s = some (.struct fs)) (hf : fs[f]? = some fd) (hi : P.info? fd.type = some i) (hz : i.size ≠ 0)
    {xs : List AV} (hr : RepT (cx X st.H w β) xs [a.eval x]) {F d} (h : stepH F (.faddr fd.offset) xs st.H d K) : Goal P X n base w0 o st K a w := by
  obtain ⟨p, rfl, hp⟩ := RepT1 hr
  have key : ∀ (b k : Nat), a.eval x = .pointer (some ⟨b, k, none⟩) → (execOp a.eval o).run P w = .ok (.value (.pointer (some ⟨b, k + fd.offset, none⟩))) w := by
    intro b k hv
    unfold execOp
    simp [ho, hv, run_fieldAt hu hf hi hz]
  cases p <;> simp only [stepH] at h <;> simp only [RepV] at hp
  case ptr s g k =>
    obtain ⟨hg, b, hb, hv⟩ := hp
    exact Goal.pure hs hd h (key b k hv) (by simp only [RepV]; exact ⟨hg, b, hb, rfl⟩)
  case eptr s g sz j k =>
    obtain ⟨hg, b, hb, hv⟩ := hp
    exact Goal.pure hs hd h (key b _ hv) (by simp only [RepV]; exact ⟨hg, b, hb, by rw [Nat.add_assoc]⟩)
  case pcell cs =>
    obtain ⟨b, off, hv, hb, hm, hc⟩ := hp
    exact Goal.pure hs hd h (key b _ hv) (by simp only [RepV]; exact ⟨b, off + fd.offset, rfl, hb, hm, RepC_drop hc _⟩)

theorem AllLen_get {sz : Nat} {es : List (List AV)} (h : AllLen sz es) {i : Nat} {e : List AV} (he : es[i]? = some e) : e.length = sz := h e (List.mem_of_getElem? he)

theorem op_iaddr (hs : Sim X n base w0 st a w β) (hd : ∀ d, o.dst = some d → d < n) {t e : TypeId} {x y : Operand} (ho : o.op = .indexAddr t x y)
    {i : TypeInfo} (hu : P.underlying t = some (.slice e)) (hi : P.info? e = some i)
    {xs : List AV} (hr : RepT (cx X st.H w β) xs [a.eval x, a.eval y]) {F d} (h : stepH F (.iaddr i.size) xs st.H d K) : Goal P X n base w0 o st K a w := by
  obtain ⟨p, q, rfl, hp, hq⟩ := RepT2 hr
  cases q <;> simp only [stepH] at h
  rename_i k j
  obtain ⟨h0, h⟩ := h
  simp only [RepV] at hq
  have key : ∀ (b off m c : Nat), a.eval x = .slice (some ⟨b, off, none⟩) m c → j < m → (execOp a.eval o).run P w = .ok (.value (.pointer (some ⟨b, off + j.toNat * i.size, none⟩))) w := by
    intro b off m c hv hj
    unfold execOp
    simp [ho, hv, hq, Instr.indexAt, asIntOf, run_underlying hu, h0, hj, sizeOf, typeInfo, hi, Addr.add_lit]
  cases p <;> simp only at h
  case sl es =>
    simp only [RepV] at hp
    obtain ⟨hal, h⟩ := h
    obtain ⟨e', he, hK⟩ := someQ_elim h
    have hjl : j.toNat < es.length := (List.getElem?_eq_some_iff.1 he).1
    rcases hp with ⟨_, hp⟩ | ⟨b, off, cap, hv, _, hb, hm, hE⟩
    · omega
    · refine Goal.pure hs hd hK (key b off _ cap hv (by omega)) ?_
      simp only [RepV]
      exact ⟨b, _, rfl, hb, hm, (RepE_iff hal).1 hE _ _ he⟩
  case view s g sz m =>
    simp only [RepV] at hp
    obtain ⟨rfl, hj, hK⟩ := h
    obtain ⟨hg, hp⟩ := hp
    rcases hp with ⟨_, _, hp⟩ | ⟨b, cap, cur, e', hb, hv, _⟩
    · omega
    · refine Goal.pure hs hd hK (key b 0 _ cap hv hj) ?_
      simp only [RepV]
      exact ⟨hg, b, hb, by rw [Nat.zero_add, Nat.add_zero]⟩
  case sub s g sz so m =>
    simp only [RepV] at hp
    obtain ⟨rfl, hj, hK⟩ := h
    obtain ⟨hg, b, cap, cur, e', hb, hv, _⟩ := hp
    refine Goal.pure hs hd hK (key b _ _ cap hv hj) ?_
    simp only [RepV]
    exact ⟨hg, b, hb, by rw [Nat.add_mul, Nat.add_zero]⟩

/-! ### a load -/
def aggD : TypeDesc → Bool
  | .struct _ | .array _ _ => true
  | _ => false

def aggOf (P : Program) (t : TypeId) (sz : Option Nat) : Prop :=
  ∃ d, P.underlying t = some d ∧ match sz with
    | none => aggD d = false
    | some m => aggD d = true ∧ (P.info? t).map (·.size) = some m

theorem run_isAgg {w : World} {t : TypeId} {d : TypeDesc} (hu : P.underlying t = some d) : (isAgg t).run P w = .ok (aggD d) w := by
  unfold isAgg
  rw [Sem.run_bind, run_underlying hu w]
  cases d <;> rfl

/-- Cells that lie there, as one value. -/
theorem load_rep {c : Cx} {t : TypeId} {sz : Option Nat} (ht : aggOf P t sz) {cs : List AV} {k : Nat} {x : AV} (hx : takeAt sz cs k = some x) {b off : Nat} (hc : RepC c cs b off) :
    ∃ v, (loadVar t ⟨b, off + k, none⟩).run P c.w = .ok v c.w ∧ RepV c x v := by
  obtain ⟨d, hu, ht⟩ := ht
  cases sz with
  | none =>
    simp only [takeAt] at hx
    obtain ⟨v, hv, _, hr⟩ := RepC_iff.1 hc k x hx
    refine ⟨v, ?_, hr⟩
    simp only at ht
    simp [loadVar, run_isAgg hu, ht, hv]
  | some m =>
    simp only [takeAt] at hx
    split at hx
    · rename_i hle
      injection hx with hx
      subst hx
      obtain ⟨vs, h1, h2⟩ := RepC_list (RepC_take (RepC_drop hc k) m)
      have hl : vs.length = m := by rw [RepL_length h1, List.length_take, List.length_drop]; omega
      have hload := run_loadCells_list (P := P) c.w ⟨b, off + k, none⟩ vs (fun j v hj => by rw [Addr.add_lit]; exact h2 j v hj)
      rw [hl] at hload
      simp only at ht
      refine ⟨.agg vs.toArray, ?_, by simp only [RepV]; exact ⟨vs, rfl, h1⟩⟩
      cases hq : P.info? t with
      | none => rw [hq] at ht; simp at ht
      | some ti =>
        have hsz : ti.size = m := by have := ht.2; rw [hq] at this; simpa using this
        simp [loadVar, run_isAgg hu, ht.1, sizeOf, typeInfo, hq, hsz, hload]
    · cases hx

theorem op_load (hs : Sim X n base w0 st a w β) (hd : ∀ d, o.dst = some d → d < n) {t : TypeId} {x : Operand} (ho : o.op = .load t x) {sz : Option Nat} (ht : aggOf P t sz)
    {xs : List AV} (hr : RepT (cx X st.H w β) xs [a.eval x]) {F d} (h : stepH F (.load sz) xs st.H d K) : Goal P X n base w0 o st K a w := by
  obtain ⟨p, rfl, hp⟩ := RepT1 hr
  simp only [stepH] at h
  have key : ∀ (b k : Nat) (v : Value), a.eval x = .pointer (some ⟨b, k, none⟩) → (loadVar t ⟨b, k, none⟩).run P w = .ok v w → (execOp a.eval o).run P w = .ok (.value v) w := by
    intro b k v hv hl
    unfold execOp
    simp [ho, hv, Instr.loadAt, Instr.sureAddr, hl]
  have frompers : ∀ {x' : AV} {v : Value}, RepV (cx X st.H w β).pers x' v → RepV (cx X st.H w β) x' v := by
    intro x' v h
    exact RepV.mono (.ofPers _) _ _ h
  unfold loadQ at h
  split at h
  · rename_i s g k
    simp only [RepV] at hp
    obtain ⟨hg, b, hb, hv⟩ := hp
    split at h
    · rename_i g' cs hH
      obtain ⟨rfl, h⟩ := h
      obtain ⟨y, hy, hK⟩ := someQ_elim h
      obtain ⟨b', cur, e, e1, _, h2, h3, h4⟩ := hs.ok.hp s g _ hH
      rw [show β s g = some b from hb] at e1
      injection e1 with e1
      subst e1
      obtain ⟨v, hl, hrv⟩ := load_rep ht hy h4
      rw [Nat.zero_add] at hl
      exact Goal.pure hs hd hK (key b k v hv hl) hrv
    · exact h.elim
  · rename_i s g esz i k
    simp only [RepV] at hp
    obtain ⟨hg, b, hb, hv⟩ := hp
    have go : ∀ {es : List (List AV)} (_hal : AllLen esz es) (_hE : RepE (cx X st.H w β).pers es b 0), (someQ es[i]? fun e => someQ (takeAt sz e k) (K · [])) → Goal P X n base w0 o st K a w := by
      intro es hal hE h
      obtain ⟨e, he, h⟩ := someQ_elim h
      obtain ⟨y, hy, hK⟩ := someQ_elim h
      have hc := (RepE_iff hal).1 hE i e he
      obtain ⟨v, hl, hrv⟩ := load_rep ht hy hc
      rw [Nat.zero_add] at hl
      exact Goal.pure hs hd hK (key b _ v hv hl) (frompers hrv)
    split at h
    · rename_i g' e' sz' es hH
      obtain ⟨rfl, rfl, h⟩ := h
      have hp := hs.ok.hp s g _ hH
      obtain ⟨hal, hp⟩ := hp
      rw [show β s g = some b from hb] at hp
      obtain ⟨_, cur, _, _, hE⟩ := hp
      exact go hal hE h
    · rename_i g' e' sz' es hH
      obtain ⟨rfl, rfl, h⟩ := h
      have hp := hs.ok.hp s g _ hH
      obtain ⟨hal, hp⟩ := hp
      rw [show β s g = some b from hb] at hp
      obtain ⟨_, _, hE⟩ := hp
      exact go hal hE h
    · exact h.elim
  · rename_i cs
    simp only [RepV] at hp
    obtain ⟨b, off, hv, hb, hm, hc⟩ := hp
    obtain ⟨y, hy, hK⟩ := someQ_elim h
    obtain ⟨v, hl, hrv⟩ := load_rep ht hy hc
    rw [Nat.add_zero] at hl
    exact Goal.pure hs hd hK (key b off v hv hl) (frompers hrv)
  · exact h.elim

/-! ### new memory -/
theorem ptr_new (ok : HOK X base w0 st.H w β) (d : Nat) (cur : Array Value) (e : TypeId) (cs : List AV) (h : RepL (cx X st.H w β) cs cur.toList) :
    HOK X base w0 (updH st.H [(d, (st.H d).1 + 1, some (.box cs))]) (w.alloc (.cells cur e)) (βnew β d ((st.H d).1 + 1) w.heap.size) ∧
    (cx X st.H w β).Le (cx X (updH st.H [(d, (st.H d).1 + 1, some (.box cs))]) (w.alloc (.cells cur e)) (βnew β d ((st.H d).1 + 1) w.heap.size)) ∧
    RepV (cx X (updH st.H [(d, (st.H d).1 + 1, some (.box cs))]) (w.alloc (.cells cur e)) (βnew β d ((st.H d).1 + 1) w.heap.size)) (.ptr d ((st.H d).1 + 1) 0) (.pointer (some ⟨w.heap.size, 0, none⟩)) := by
  obtain ⟨h1, h2⟩ := ok.alloc d cur e (.box cs) trivial (fun c' hle hw => by
    have hb : c'.w.heap[w.heap.size]? = some (.cells cur e (0, 0)) := by rw [hw]; exact heap_alloc_new w _
    refine ⟨w.heap.size, cur, e, rfl, ok.hbase _ (Nat.le_refl _), hb, ?_, RepC_row hb (RepL.mono hle _ _ h)⟩
    have := RepL_length h
    simpa using this)
  refine ⟨h1, h2, ?_⟩
  simp only [RepV]
  refine ⟨⟨Nat.succ_pos _, ?_⟩, w.heap.size, by simp [cx, βnew], rfl⟩
  simp [cx, updH, upd]

def ofVal : Value → Option AV
  | .bool b => some (.bool b)
  | .int k n => some (.int k n)
  | .string s => some (.str s)
  | .slice none 0 0 => some .nil
  | _ => none

theorem ofVal_rep {c : Cx} {v : Value} {x : AV} (h : ofVal v = some x) : RepV c x v ∧ v.oneCell' = true := by
  unfold ofVal at h
  split at h <;> first | (injection h with h; subst h; exact ⟨by simp only [RepV], rfl⟩) | cases h

theorem ofVals_rep {c : Cx} : ∀ {vs : List Value} {xs : List AV}, vs.mapM ofVal = some xs → RepL c xs vs
  | [], xs => fun h => by simp at h; subst h; simp only [RepL]
  | v :: vs, xs => fun h => by
    simp only [List.mapM_cons, Option.bind_eq_bind, Option.pure_def, Option.bind_eq_some_iff, Option.some.injEq] at h
    obtain ⟨x, hx, xs', hxs, rfl⟩ := h
    simp only [RepL]
    exact ⟨v, vs, rfl, (ofVal_rep (c := c) hx).2, (ofVal_rep hx).1, ofVals_rep hxs⟩

def zeroOf (P : Program) (t : TypeId) : Option (List AV) := ((P.info? t).bind (·.zero)).bind fun z => z.cells.toList.mapM ofVal

theorem zeroOf_spec {t : TypeId} {z : List AV} (h : zeroOf P t = some z) : ∃ i zv, P.info? t = some i ∧ i.zero = some zv ∧ zv.cells.toList.mapM ofVal = some z := by
  unfold zeroOf at h
  simp only [Option.bind_eq_some_iff] at h
  obtain ⟨zv, ⟨i, hi, hz⟩, h⟩ := h
  exact ⟨i, zv, hi, hz, h⟩

theorem op_alloc (hs : Sim X n base w0 st a w β) (hd : ∀ d, o.dst = some d → d < n) {t : TypeId} (ho : o.op = .alloc t) {z : List AV} (hz : zeroOf P t = some z)
    {F d} (h : stepH F (.alloc z) [] st.H d K) : Goal P X n base w0 o st K a w := by
  simp only [stepH, allocQ] at h
  obtain ⟨i, zv, hi, hz1, hz2⟩ := zeroOf_spec hz
  obtain ⟨h1, h2, h3⟩ := ptr_new hs.ok d zv.cells t z (ofVals_rep hz2)
  refine Goal.value hs hd h ?_ h1 h2 h3
  unfold execOp
  simp [ho, Instr.alloc, zeroValue, typeInfo, hi, hz1, newVar, newRow]

theorem op_box (hs : Sim X n base w0 st a w β) (hd : ∀ d, o.dst = some d → d < n) {t : TypeId} {x : Operand} (ho : o.op = .box t x)
    {xs : List AV} (hr : RepT (cx X st.H w β) xs [a.eval x]) {F d} (h : stepH F .box xs st.H d K) : Goal P X n base w0 o st K a w := by
  obtain ⟨p, rfl, hp⟩ := RepT1 hr
  simp only [stepH, allocQ] at h
  obtain ⟨hc, h⟩ := h
  obtain ⟨h1, h2, h3⟩ := ptr_new hs.ok d (a.eval x).cells t (cellsOf p) (cells_rep hc hp)
  refine Goal.value hs hd h ?_ h1 h2 h3
  unfold execOp
  simp [ho, Instr.box, newVar, newRow]

/-! ### a store -/
theorem run_storeVar_at {w : World} {t : TypeId} {b off : Nat} {v : Value} {cur : Array Value} {e : TypeId} (hb : w.heap[b]? = some (.cells cur e (0, 0))) (hsz : (P.info? t).map (·.size) = some v.cells.size)
    (hfit : off + v.cells.size ≤ cur.size) (h1 : ∀ u ∈ v.cells.toList, u.oneCell' = true) :
    (storeVar t ⟨b, off, none⟩ v).run P w = .ok () (w.setRow b (cur.toList.take off ++ v.cells.toList ++ cur.toList.drop (off + v.cells.toList.length)).toArray) := by
  have := run_storeCells_at P b off e v.cells.toList 0 cur w hb (by simpa using hfit) h1
  cases hq : P.info? t with
  | none => simp [hq] at hsz
  | some i =>
    have hs : v.cells.size = i.size := by simp [hq] at hsz; omega
    simp only [Nat.add_zero] at this
    simp [storeVar, sizeOf, typeInfo, hq, hs, this]

theorem RepL_one {c : Cx} : ∀ {xs : List AV} {vs : List Value}, RepL c xs vs → ∀ u ∈ vs, u.oneCell' = true
  | [], vs => fun h u hu => by simp only [RepL] at h; subst h; cases hu
  | x :: xs, vs => fun h u hu => by
    simp only [RepL] at h
    obtain ⟨v, vs', rfl, ho, _, h2⟩ := h
    cases hu with
    | head => exact ho
    | tail _ hu => exact RepL_one h2 u hu

theorem op_store (hs : Sim X n base w0 st a w β) (hd : ∀ d, o.dst = some d → d < n) {t : TypeId} {x y : Operand} (ho : o.op = .store t x y) {m : Nat} (ht : (P.info? t).map (·.size) = some m)
    {xs : List AV} (hr : RepT (cx X st.H w β) xs [a.eval x, a.eval y]) {F d} (h : stepH F (.store m) xs st.H d K) : Goal P X n base w0 o st K a w := by
  obtain ⟨p, q, rfl, hp, hq⟩ := RepT2 hr
  simp only [stepH, storeQ] at h
  obtain ⟨hlen, h⟩ := h
  have key : ∀ (b off : Nat) (cur : Array Value) (e : TypeId), a.eval x = .pointer (some ⟨b, off, none⟩) → w.heap[b]? = some (.cells cur e (0, 0)) → RepL (cx X st.H w β) (cellsOf q) (a.eval y).cells.toList → off + m ≤ cur.size →
      (execOp a.eval o).run P w = .ok .skip (w.setRow b (cur.toList.take off ++ (a.eval y).cells.toList ++ cur.toList.drop (off + (a.eval y).cells.toList.length)).toArray) := by
    intro b off cur e hv hb hc hfit
    have hl := RepL_length hc
    have hsz : (a.eval y).cells.size = m := by rw [← Array.length_toList]; omega
    have hrun := run_storeVar_at (P := P) (t := t) (off := off) (v := a.eval y) hb (by rw [ht, hsz]) (by omega) (RepL_one hc)
    unfold execOp
    simp [ho, hv, Instr.storeAt, Instr.sureAddr] at hrun ⊢
    simp [hrun]
  have hsize : ∀ (cur : Array Value) (off : Nat) (vs : List Value), off + vs.length ≤ cur.size → (cur.toList.take off ++ vs ++ cur.toList.drop (off + vs.length)).toArray.size = cur.size := by
    intro cur off vs h
    have hcl : cur.toList.length = cur.size := Array.length_toList
    simp only [List.size_toArray, List.length_append, List.length_take, List.length_drop]
    omega
  split at h
  · rename_i s g k
    simp only [RepV] at hp
    obtain ⟨hg, b, hb, hv⟩ := hp
    split at h
    · rename_i g' cs hH
      obtain ⟨rfl, hcell, hk, hK⟩ := h
      have hc := cells_rep hcell hq
      have hl := RepL_length hc
      obtain ⟨b', cur, e, e1, h0, h2, h3, h4⟩ := hs.ok.hp s g _ hH
      rw [show β s g = some b from hb] at e1
      injection e1 with e1
      subst e1
      have h2' : w.heap[b]? = some (.cells cur e (0, 0)) := h2
      obtain ⟨ok', hle⟩ := hs.ok.write (cur := (cur.toList.take k ++ (a.eval y).cells.toList ++ cur.toList.drop (k + (a.eval y).cells.toList.length)).toArray) hH trivial hb h2'
        (hsize cur k _ (by omega)) (.box (setCells cs k (cellsOf q))) trivial (fun c' hle hw => by
          have hb' := setRow_heap w b cur (cur.toList.take k ++ (a.eval y).cells.toList ++ cur.toList.drop (k + (a.eval y).cells.toList.length)).toArray e (0, 0) h2'
          have hb'' := hb'
          rw [← hw] at hb''
          refine ⟨b, _, e, rfl, h0, hb'', by rw [hsize cur k _ (by omega), setCells_length, h3], ?_⟩
          exact RepC_write hle (off := 0) (k := k) (vs := (a.eval y).cells.toList) h2 (by rw [Nat.zero_add]; exact hb'') h4 hc (by omega) (by omega))
      exact Goal.skip hs hd hK (key b k cur e hv h2' hc (by omega)) ok' hle
    · exact h.elim
  · rename_i s g esz i k
    simp only [RepV] at hp
    obtain ⟨hg, b, hb, hv⟩ := hp
    split at h
    · rename_i g' e' sz' es hH
      obtain ⟨rfl, rfl, hpers, hk, h⟩ := h
      obtain ⟨xe, hxe, hK⟩ := someQ_elim h
      have hcellish : (cellsOf q).all cellish = true := by
        rw [List.all_eq_true] at hpers ⊢
        intro z hz
        have hz := hpers (denil z) (List.mem_map_of_mem hz)
        cases z <;> first | rfl | (simp [denil, Pers] at hz)
      have hc0 := cells_rep (c := cx X st.H w β) hcellish hq
      have hc := RepL_denil hc0
      have hl := RepL_length hc
      have hlen2 : ((cellsOf q).map denil).length = m := by rw [List.length_map]; exact hlen
      obtain ⟨hal, h1⟩ := hs.ok.hp s g _ hH
      rw [show β s g = some b from hb] at h1
      obtain ⟨h0, cur, h2, h3, h4⟩ := h1
      have h2' : w.heap[b]? = some (.cells cur e' (0, 0)) := h2
      have hxl := AllLen_get hal hxe
      have hil : i < es.length := (List.getElem?_eq_some_iff.1 hxe).1
      have hmul : i * sz' + sz' ≤ cur.size := by
        have : (i + 1) * sz' ≤ es.length * sz' := Nat.mul_le_mul_right _ hil
        rw [Nat.add_mul, Nat.one_mul] at this
        exact Nat.le_trans this h3
      obtain ⟨ok', hle⟩ := hs.ok.write (cur := (cur.toList.take (i * sz' + k) ++ (a.eval y).cells.toList ++ cur.toList.drop (i * sz' + k + (a.eval y).cells.toList.length)).toArray) hH trivial hb h2'
        (hsize cur _ _ (by omega)) (.arr e' sz' (es.set i (setCells xe k ((cellsOf q).map denil)))) trivial (fun c' hle hw => by
          have hb' := setRow_heap w b cur (cur.toList.take (i * sz' + k) ++ (a.eval y).cells.toList ++ cur.toList.drop (i * sz' + k + (a.eval y).cells.toList.length)).toArray e' (0, 0) h2'
          have hb'' := hb'
          rw [← hw] at hb''
          have hal' : AllLen sz' (es.set i (setCells xe k ((cellsOf q).map denil))) := by
            intro z hz
            rcases List.mem_or_eq_of_mem_set hz with hz | hz
            · exact hal z hz
            · rw [hz, setCells_length, hxl]
          refine ⟨hal', h0, _, hb'', by rw [hsize cur _ _ (by omega), List.length_set]; exact h3, ?_⟩
          rw [RepE_iff hal'] 
          intro j z hz
          rw [Nat.zero_add]
          by_cases hij : i = j
          · subst hij
            rw [List.getElem?_set_self hil] at hz
            injection hz with hz
            subst hz
            have := (RepE_iff hal).1 h4 i xe hxe
            rw [Nat.zero_add] at this
            exact RepC_write hle.pers (off := i * sz') (k := k) (vs := (a.eval y).cells.toList) h2 hb'' this (PersL.pers (c := cx X st.H w β) (c' := (cx X st.H w β).pers) rfl hpers hc) (by omega) (by omega)
          · rw [List.getElem?_set_ne hij] at hz
            have hcj := (RepE_iff hal).1 h4 j z hz
            rw [Nat.zero_add] at hcj
            have hjl : j < es.length := (List.getElem?_eq_some_iff.1 hz).1
            have hzl := AllLen_get hal hz
            refine RepC_iff.2 fun r y' hy' => ?_
            obtain ⟨v, hv1, hv2, hv3⟩ := RepC_iff.1 hcj r y' hy'
            refine ⟨v, ?_, hv2, RepV.mono hle.pers _ _ hv3⟩
            have hrl : r < z.length := (List.getElem?_eq_some_iff.1 hy').1
            have hv1' : w.cell? ⟨b, j * sz' + r, none⟩ = some v := hv1
            rw [cell_of_row w b (j * sz' + r) cur e' (0, 0) h2'] at hv1'
            rw [show c'.pers.w = c'.w from rfl, cell_of_row c'.w b (j * sz' + r) _ e' (0, 0) hb'', List.getElem?_toArray]
            have hcl : cur.toList.length = cur.size := Array.length_toList
            rw [splice_get _ _ _ _ (by omega), if_neg, ← hv1']
            · simp
            · rintro ⟨g1, g2⟩
              rcases Nat.lt_or_gt_of_ne hij with hlt | hlt
              · have : (i + 1) * sz' ≤ j * sz' := Nat.mul_le_mul_right _ hlt
                rw [Nat.add_mul, Nat.one_mul] at this
                omega
              · have : (j + 1) * sz' ≤ i * sz' := Nat.mul_le_mul_right _ hlt
                rw [Nat.add_mul, Nat.one_mul] at this
                omega)
      exact Goal.skip hs hd hK (key b _ cur e' hv h2' hc0 (by omega)) ok' hle
    · exact h.elim
  · exact h.elim

end
end Go.Ev
