/- An abstract evaluator, part 9: slices made, added to, copied; structs compared; calls. -/
import Derived.Test.YtfklgafihefpeaaEv8
set_option linter.unusedVariables false
set_option linter.unusedSimpArgs false
namespace Go.Ev
open Go.RowKit

section
variable {P : Program} {X : Nat → Prop} {n : Nat} {base : Base} {w0 w : World} {st : St} {a : Act} {β : Nat → Nat → Option Nat} {o : Oper} {K : Kont}

theorem FrzOf.gen {H H1 : Heap} (h : FrzOf H H1) (s : Nat) : (H1 s).1 = (H s).1 := by
  rcases h s with h | ⟨g, e, sz, es, h1, h2⟩
  · rw [h]
  · rw [h1, h2]

/-! ### a slice is made -/
theorem view_new {H : Heap} (ok : HOK X base w0 H w β) (d : Nat) (cur : Array Value) (e sz cap : Nat) (es : List (List AV)) (hal : AllLen sz es) (hcap : es.length ≤ cap) (hm : cap ≤ maxLen) (hsz : cur.size = cap * sz)
    (hE : ∀ c' : Cx, (cx X H w β).pers.Le c' → c'.w = w.alloc (.cells cur e) → RepE c' es w.heap.size 0) :
    HOK X base w0 (updH H [(d, (H d).1 + 1, some (.arr e sz es))]) (w.alloc (.cells cur e)) (βnew β d ((H d).1 + 1) w.heap.size) ∧
    (cx X H w β).Le (cx X (updH H [(d, (H d).1 + 1, some (.arr e sz es))]) (w.alloc (.cells cur e)) (βnew β d ((H d).1 + 1) w.heap.size)) ∧
    RepV (cx X (updH H [(d, (H d).1 + 1, some (.arr e sz es))]) (w.alloc (.cells cur e)) (βnew β d ((H d).1 + 1) w.heap.size)) (.view d ((H d).1 + 1) sz es.length) (.slice (some ⟨w.heap.size, 0, none⟩) es.length cap) := by
  have hnew := heap_alloc_new w (.cells cur e)
  obtain ⟨h1, h2⟩ := ok.alloc d cur e (.arr e sz es) trivial (fun c' hle hw => by
    refine ⟨hal, ok.hbase _ (Nat.le_refl _), cur, by rw [hw]; exact hnew, by rw [hsz]; exact Nat.mul_le_mul_right _ hcap, ?_⟩
    exact hE c'.pers hle.pers hw)
  refine ⟨h1, h2, ?_⟩
  simp only [RepV]
  refine ⟨⟨Nat.succ_pos _, by simp [cx, updH, upd]⟩, .inr ⟨w.heap.size, cap, cur, e, by simp [cx, βnew], rfl, hcap, hm, hnew, hsz⟩⟩

theorem fill_all (sz : Nat) : ∀ (vs : List Value) (k : Nat) (cells : Array Value), (∀ v ∈ vs, v.cells.size = sz) → cells.size = (k + vs.length) * sz →
    ∃ cells', Instr.fill (fun i => some (i * sz, sz)) cells ((List.range' k vs.length).zip vs) = some cells' ∧ cells'.size = cells.size ∧
      (∀ p, p < k * sz → cells'[p]? = cells[p]?) ∧ ∀ i v j, vs[i]? = some v → j < sz → cells'[(k + i) * sz + j]? = v.cells[j]?
  | [], k, cells, _, _ => ⟨cells, rfl, rfl, fun _ _ => rfl, by simp⟩
  | v :: vs, k, cells, h1, h2 => by
    have hv : v.cells.size = sz := h1 v (by simp)
    simp only [List.length_cons] at h2
    have hfold : ∀ (cells : Array Value), k * sz + sz ≤ cells.size → (v.cells.zipIdx.foldl (fun (cs : Array Value) (p : Value × Nat) => cs.setIfInBounds (k * sz + p.2) p.1) cells).toList =
        cells.toList.take (k * sz) ++ v.cells.toList ++ cells.toList.drop (k * sz + v.cells.toList.length) := by
      intro cells hfit
      have := foldl_set (k * sz) v.cells.toList 0 cells (by rw [Array.length_toList]; omega)
      rw [Nat.add_zero] at this
      rw [← this, ← Array.foldl_toList, Array.toList_zipIdx]
    have hsum : (k + (vs.length + 1)) * sz = k * sz + sz + vs.length * sz := by rw [Nat.add_mul, Nat.add_mul]; omega
    have hfit : k * sz + sz ≤ cells.size := by omega
    have hF := hfold cells hfit
    generalize hg : v.cells.zipIdx.foldl (fun (cs : Array Value) (p : Value × Nat) => cs.setIfInBounds (k * sz + p.2) p.1) cells = cells1 at hF
    have hvl : v.cells.toList.length = sz := by rw [Array.length_toList]; exact hv
    have hcl : cells.toList.length = cells.size := Array.length_toList
    have hs1 : cells1.size = cells.size := by
      rw [← Array.length_toList, hF, List.length_append, List.length_append, List.length_take, List.length_drop]
      omega
    have hget : ∀ p, cells1[p]? = if k * sz ≤ p ∧ p < k * sz + sz then v.cells[p - k * sz]? else cells[p]? := by
      intro p
      rw [← Array.getElem?_toList, hF, splice_get _ _ _ _ (by omega), hvl]
      simp
    obtain ⟨cells', h3, h4, h5, h6⟩ := fill_all sz vs (k + 1) cells1 (fun x hx => h1 x (by simp [hx])) (by rw [hs1, h2]; congr 1; omega)
    refine ⟨cells', ?_, h4.trans hs1, fun p hp => ?_, fun i u j hi hj => ?_⟩
    · rw [List.length_cons, List.range'_succ, List.zip_cons_cons]
      simp only [Instr.fill]
      rw [if_neg]
      · rw [hg]; exact h3
      · simp [hv]
        omega
    · have hk1 : (k + 1) * sz = k * sz + sz := by rw [Nat.add_mul, Nat.one_mul]
      rw [h5 p (by omega), hget p, if_neg (by omega)]
    · cases i with
      | zero =>
        simp only [List.getElem?_cons_zero, Option.some.injEq] at hi
        subst hi
        have hk1 : (k + 1) * sz = k * sz + sz := by rw [Nat.add_mul, Nat.one_mul]
        rw [Nat.add_zero, h5 _ (by omega), hget, if_pos (by omega)]
        congr 1
        omega
      | succ i =>
        rw [List.getElem?_cons_succ] at hi
        rw [show k + (i + 1) = k + 1 + i by omega]
        exact h6 i u j hi hj

theorem op_buildSl (hs : Sim X n base w0 st a w β) (hd : ∀ d, o.dst = some d → d < n) {t e : TypeId} {len : Nat} {parts : Array (Nat × Operand)} (ho : o.op = .buildSlice t len parts) {i : TypeInfo} {zv : Value}
    (hu : P.underlying t = some (.slice e)) (hi : P.info? e = some i) (hz : i.zero = some zv) (hlen : parts.size = len) (hix : parts.toList.map (·.1) = List.range' 0 len) (hsmall : len * i.size ≤ 16777216) (hl24 : len ≤ 16777216)
    {xs : List AV} (hr : RepT (cx X st.H w β) xs (parts.toList.map fun p => a.eval p.2)) {F d} (h : stepH F (.buildSl e i.size) xs st.H d K) : Goal P X n base w0 o st K a w := by
  simp only [stepH] at h
  obtain ⟨xs', us, h, ok1, le1, fz, r1, pp, hxl⟩ := freezeAL_sound hs.ok (FrzOf.refl _) xs _ hr h
  obtain ⟨hall, hK⟩ := h
  rw [List.all_eq_true] at hall
  obtain ⟨hvl, hvs⟩ := RepT_iff.1 r1
  simp only [List.length_map, Array.length_toList] at hvl
  have hcells : ∀ (j : Nat) x, xs'[j]? = some x → ∃ p, parts[j]? = some p ∧ RepL (cx X (updH st.H us) w β).pers (cellsOf x) (a.eval p.2).cells.toList ∧ (cellsOf x).length = i.size := by
    intro j x hj
    obtain ⟨v, hv, hx⟩ := hvs j x hj
    simp only [List.getElem?_map, Option.map_eq_some_iff] at hv
    obtain ⟨p, hp, rfl⟩ := hv
    have hx2 := hall x (List.mem_of_getElem? hj)
    simp only [Bool.and_eq_true, beq_iff_eq] at hx2
    have hpa : PersA x = true := by rw [List.all_eq_true] at pp; exact pp x (List.mem_of_getElem? hj)
    refine ⟨p, by simpa using hp, ?_, hx2.1⟩
    have hx' := PersA.pers (c := cx X (updH st.H us) w β) (c' := (cx X (updH st.H us) w β).pers) hpa rfl hx
    exact cells_rep hx2.2 hx'
  have hsizes : ∀ v ∈ parts.toList.map (fun p => a.eval p.2), v.cells.size = i.size := by
    intro v hv
    obtain ⟨j, hj⟩ := List.getElem?_of_mem hv
    simp only [List.getElem?_map, Option.map_eq_some_iff] at hj
    obtain ⟨p, hp, rfl⟩ := hj
    have hlt : j < xs'.length := by
      have := (List.getElem?_eq_some_iff.1 hp).1
      simp only [Array.length_toList] at this
      omega
    obtain ⟨p', hp', h1, h2⟩ := hcells j _ (List.getElem?_eq_getElem hlt)
    have : p' = p := by
      have hp2 : parts[j]? = some p := by simpa using hp
      rw [hp2] at hp'
      injection hp' with hp'
      exact hp'.symm
    subst this
    have := RepL_length h1
    rw [Array.length_toList] at this
    omega
  have hpl : (parts.toList.map fun p => a.eval p.2).length = len := by simp [hlen]
  obtain ⟨cells', hf, hs1, _, hget⟩ := fill_all i.size (parts.toList.map fun p => a.eval p.2) 0 (Array.map (fun x => (if len * i.size = 0 then #[] else zv.cells)[x % (if len * i.size = 0 then #[] else zv.cells).size]!) (Array.range (len * i.size))) hsizes (by simp [hlen])
  have hrun : (execOp a.eval o).run P w = .ok (.value (.slice (some ⟨w.heap.size, 0, none⟩) len len)) (w.alloc (.cells cells' e)) := by
    have hparts : (parts.map fun (j, x) => (j, a.eval x)).toList = (List.range' 0 (parts.toList.map fun p => a.eval p.2).length).zip (parts.toList.map fun p => a.eval p.2) := by
      rw [hpl, ← hix, ← map_zip_fst (parts.map fun (j, x) => (j, a.eval x)).toList]
      simp [Function.comp_def]
    have hbig : ¬ (16777216 < len * i.size) := by omega
    unfold execOp
    rw [hpl] at hf hparts
    by_cases hzero : len * i.size = 0
    · simp only [hzero, if_true] at hf
      simp only [ho, Instr.buildSlice, Sem.run_bind, run_underlying hu, Result.andThen_ok, sizeOf, typeInfo, run_program, hi, Sem.run_pure, hzero, if_true, Nat.reducePow, gt_iff_lt, Nat.not_lt_zero, if_false, hparts, hf, newRow, run_newObj, hpl]
      rfl
    · simp only [hzero, if_false] at hf
      simp only [ho, Instr.buildSlice, Sem.run_bind, run_underlying hu, Result.andThen_ok, sizeOf, typeInfo, run_program, hi, Sem.run_pure, hzero, if_false, hparts, hf, newRow, run_newObj, hpl, zeroValue, hz, Nat.reducePow, gt_iff_lt, hbig]
      rfl
  have hxl' : (xs'.map cellsOf).length = len := by rw [List.length_map]; omega
  have hal : AllLen i.size (xs'.map cellsOf) := by
    intro y hy
    simp only [List.mem_map] at hy
    obtain ⟨x, hx, rfl⟩ := hy
    have := hall x hx
    simp only [Bool.and_eq_true, beq_iff_eq] at this
    exact this.1
  have hcs : cells'.size = len * i.size := by rw [hs1]; simp
  obtain ⟨h1, h2, h3⟩ := view_new ok1 d cells' e i.size len (xs'.map cellsOf) hal (by omega) (by simp only [maxLen]; omega) hcs (fun c' hle hw => by
    refine (RepE_iff hal).2 fun j y hy => ?_
    simp only [List.getElem?_map, Option.map_eq_some_iff] at hy
    obtain ⟨x, hx, rfl⟩ := hy
    obtain ⟨p, hp, hrep, hlen'⟩ := hcells j x hx
    have hnew : c'.w.heap[w.heap.size]? = some (.cells cells' e (0, 0)) := by rw [hw]; exact heap_alloc_new w _
    refine RepC_of (RepL.mono hle _ _ hrep) fun r v hv => ?_
    rw [Nat.zero_add, cell_of_row c'.w w.heap.size (j * i.size + r) cells' e (0, 0) hnew]
    have hrl : r < i.size := by
      have := (List.getElem?_eq_some_iff.1 hv).1
      have := RepL_length hrep
      omega
    have := hget j (a.eval p.2) r (by simp [hp]) hrl
    rw [Nat.zero_add] at this
    rw [this]
    simpa using hv)
  rw [List.length_map] at h3
  have hg : ((updH st.H us) d).1 = (st.H d).1 := fz.gen d
  rw [hg] at h1 h2 h3
  refine Goal.afterFreeze hs hd hK hrun le1 h1 h2 ?_
  rw [show len = xs'.length by omega]
  rw [show len = xs'.length by omega] at h3
  exact h3

/-! ### made by a length -/
theorem op_mkSl (hs : Sim X n base w0 st a w β) (hd : ∀ d, o.dst = some d → d < n) {t e : TypeId} {l c : Operand} (ho : o.op = .makeSlice t l c) {i : TypeInfo} {zv : Value} {z : List AV}
    (hu : P.underlying t = some (.slice e)) (hi : P.info? e = some i) (hz : i.zero = some zv) (hzz : ∀ c : Cx, RepL c z zv.cells.toList) (hzs : zv.cells.size = i.size)
    {xs : List AV} (hr : RepT (cx X st.H w β) xs [a.eval l, a.eval c]) {F d} (h : stepH F (.mkSl e i.size i.bytes z) xs st.H d K) : Goal P X n base w0 o st K a w := by
  obtain ⟨p, q, rfl, hp, hq⟩ := RepT2 hr
  cases p <;> cases q <;> simp only [stepH, allocQ] at h
  rename_i kl nl kc nc
  simp only [RepV] at hp hq
  obtain ⟨h0, hlc, hby, hc, hK⟩ := h
  have hzl : z.length = i.size := by
    have := RepL_length (hzz (cx X st.H w β))
    rw [Array.length_toList] at this
    omega
  have hrun := run_make (P := P) w t e i zv hu hi hz kl kc nl nc h0 hlc (by omega) (by omega)
  have hal : AllLen i.size (List.replicate nl.toNat z) := fun y hy => by rw [(List.mem_replicate.1 hy).2]; exact hzl
  obtain ⟨h1, h2, h3⟩ := view_new hs.ok d (madeCells zv.cells (nc.toNat * i.size)) e i.size nc.toNat (List.replicate nl.toNat z) hal (by simp; omega) (by simp only [maxLen]; omega) (size_madeCells _ _) (fun c' hle hw => by
    refine (RepE_iff hal).2 fun j y hy => ?_
    have hjl := (List.getElem?_eq_some_iff.1 hy).1
    simp only [List.length_replicate] at hjl
    have hyz : y = z := by
      have := List.mem_of_getElem? hy
      exact (List.mem_replicate.1 this).2
    subst hyz
    have hnew : c'.w.heap[w.heap.size]? = some (.cells (madeCells zv.cells (nc.toNat * i.size)) e (0, 0)) := by rw [hw]; exact heap_alloc_new w _
    refine RepC_of (hzz c') fun r v hv => ?_
    rw [Nat.zero_add, cell_of_row c'.w w.heap.size (j * i.size + r) _ e (0, 0) hnew]
    have hrl : r < i.size := by
      have := (List.getElem?_eq_some_iff.1 hv).1
      rw [Array.length_toList] at this
      omega
    have hlt : j * i.size + r < nc.toNat * i.size := by
      have : (j + 1) * i.size ≤ nc.toNat * i.size := Nat.mul_le_mul_right _ (by omega)
      rw [Nat.add_mul, Nat.one_mul] at this
      omega
    have hmod : (j * i.size + r) % zv.cells.size = r := by
      rw [hzs, Nat.mul_comm, Nat.mul_add_mod]
      exact Nat.mod_eq_of_lt hrl
    unfold madeCells
    rw [Array.getElem?_map, Array.getElem?_range, if_pos hlt]
    simp only [Option.map_some, hmod]
    have hv' : zv.cells[r]? = some v := by simpa using hv
    rw [getElem!_pos zv.cells r (by omega)]
    rw [Array.getElem?_eq_getElem (by omega)] at hv'
    exact hv')
  simp only [List.length_replicate] at h3
  refine Goal.value hs hd hK ?_ h1 h2 h3
  unfold execOp
  simp only [ho, hp, hq, Sem.run_bind, hrun, Result.andThen_ok, Sem.run_pure]

end
end Go.Ev
