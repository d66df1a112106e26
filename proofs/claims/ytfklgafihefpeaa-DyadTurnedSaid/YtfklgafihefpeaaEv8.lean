/- An abstract evaluator, part 8: texts and bytes, structs and slices made, cells appended and copied, calls. -/
import Derived.Test.YtfklgafihefpeaaEv7
set_option linter.unusedVariables false
set_option linter.unusedSimpArgs false
namespace Go.Ev
open Go.RowKit

section
variable {P : Program} {X : Nat → Prop} {n : Nat} {base : Base} {w0 w : World} {st : St} {a : Act} {β : Nat → Nat → Option Nat} {o : Oper} {K : Kont}

/-- Old memory has not turned. -/
theorem HOK.belowed {H : Heap} (ok : HOK X base w0 H w β) {w' : World} (hb : Below w.heap.size w w') : HOK X base w0 H w' β ∧ (cx X H w β).Le (cx X H w' β) := by
  have hle : (cx X H w β).Le (cx X H w' β) := by
    refine ⟨hb.size, fun b hlt hm => ⟨hb.block b hlt, hm⟩, fun b cur e h => ⟨cur, ?_, rfl⟩, fun _ _ _ => rfl, fun _ => Nat.le_refl _⟩
    have hlt : b < w.heap.size := (Array.getElem?_eq_some_iff.1 h).1
    exact (hb.block b hlt).trans h
  exact ⟨⟨ok.below.trans (.ofBelow hb ok.hbase), ok.hX, fun k hk => ok.hbase k (Nat.le_trans hb.size hk), fun s g blk hs => RepB.mono hle (fun b hob _ => hb.block b (live_lt ok hs hob)) (ok.hp s g blk hs), ok.inj, ok.keep_le hle⟩, hle⟩

/-! ### texts and bytes -/
theorem bytesOfEs_spec : ∀ {es : List (List AV)} {l : List UInt8}, bytesOfEs es = some l → ∃ xs : List Int, es = xs.map (fun n => [AV.int .u8 n]) ∧ l = xs.map (fun n => UInt8.ofNat n.toNat)
  | [], l => fun h => by simp only [bytesOfEs, Option.some.injEq] at h; subst h; exact ⟨[], rfl, rfl⟩
  | e :: es, l => fun h => by
    unfold bytesOfEs at h
    split at h
    · rename_i h0; cases h0
    · rename_i k r h0
      injection h0 with h1 h2
      subst h1 h2
      simp only [Option.map_eq_some_iff] at h
      obtain ⟨l', h3, rfl⟩ := h
      obtain ⟨xs, h4, h5⟩ := bytesOfEs_spec h3
      exact ⟨k :: xs, by simp [h4], by simp [h5]⟩
    · cases h

theorem op_b2s (hs : Sim X n base w0 st a w β) (hd : ∀ d, o.dst = some d → d < n) {src dst e : TypeId} {x : Operand} (ho : o.op = .convert src dst x)
    (h1 : P.underlying src = some (.slice e)) (h2 : P.underlying e = some (.int .u8)) (h3 : P.underlying dst = some .string) {xs : List AV} (hr : RepT (cx X st.H w β) xs [a.eval x]) {F d}
    (h : stepH F .b2s xs st.H d K) : Goal P X n base w0 o st K a w := by
  obtain ⟨p, rfl, hp⟩ := RepT1 hr
  simp only [stepH] at h
  obtain ⟨es, h, hv⟩ := read_sound hs.ok hp h
  obtain ⟨l, hl, hK⟩ := someQ_elim h
  obtain ⟨ns, rfl, rfl⟩ := bytesOfEs_spec hl
  refine Goal.pure hs hd hK (v' := litV (.str _)) ?_ (litV_rep rfl)
  rcases hv with ⟨hv, hz⟩ | ⟨b, off, cap, hv, hcap, hb, hE⟩
  · have : ns = [] := by simpa using hz
    subst this
    unfold execOp
    simp [ho, hv, run_convert_bytes_nil (P := P) w src e h1 h2 0 0 dst h3, litV]
    rfl
  · have hal : AllLen 1 (ns.map fun n => [AV.int .u8 n]) := by intro e he; simp at he; obtain ⟨_, _, rfl⟩ := he; rfl
    have hcells : ∀ i, i < ns.length → w.cell? ⟨b, off + i, none⟩ = some (.int .u8 (ns.getD i 0)) := by
      intro i hi
      have hc := (RepE_iff hal).1 hE i [AV.int .u8 (ns.getD i 0)] (by simp [hi])
      obtain ⟨v, hv1, _, hv2⟩ := RepC_iff.1 hc 0 _ rfl
      simp only [RepV] at hv2
      subst hv2
      have hv1' : w.cell? ⟨b, off + i * 1 + 0, none⟩ = _ := hv1
      rwa [show off + i * 1 + 0 = off + i by omega] at hv1'
    have hrun := run_convert_bytes_arg (P := P) w src e h1 h2 b off (ns.map fun n => [AV.int .u8 n]).length cap ns (by simp) (fun i hi => hcells i (by simpa using hi)) dst h3
    unfold execOp
    simp only [ho, hv, Sem.run_bind, hrun, Result.andThen_ok, Sem.run_pure]
    rfl

theorem op_s2b (hs : Sim X n base w0 st a w β) (hd : ∀ d, o.dst = some d → d < n) {src dst e : TypeId} {x : Operand} (ho : o.op = .convert src dst x)
    (h1 : P.underlying src = some .string) (h2 : P.underlying dst = some (.slice e)) (h3 : P.underlying e = some (.int .u8)) {xs : List AV} (hr : RepT (cx X st.H w β) xs [a.eval x]) {F d}
    (h : stepH F .s2b xs st.H d K) : Goal P X n base w0 o st K a w := by
  obtain ⟨p, rfl, hp⟩ := RepT1 hr
  cases p <;> simp only [stepH] at h
  rename_i s
  simp only [RepV] at hp
  have hrun := run_bytes_of_string (P := P) w src dst e s h1 h2 h3
  have hbel : Below w.heap.size w (w.drew.alloc (.cells (bytesRow s (grownCap w s.size 0 e)) e ((bytesRow s (grownCap w s.size 0 e)).size, (bytesRow s (grownCap w s.size 0 e)).size + 1))) :=
    (Below.refl _ _).drew.alloc (Nat.le_refl _) _
  obtain ⟨ok', hle⟩ := hs.ok.belowed hbel
  refine Goal.value hs hd (us := []) h ?_ ok' hle ?_ (v' := .slice (some ⟨w.heap.size, 0, none⟩) s.size (grownCap w s.size 0 e))
  · unfold execOp
    simp only [ho, hp, Sem.run_bind, hrun, Result.andThen_ok, Sem.run_pure]
  · have hlen : (esOfBytes s).length = s.size := by unfold esOfBytes; rw [List.length_map, Array.length_toList]; rfl
    simp only [RepV, hlen]
    have hnew := heap_alloc_new w.drew (.cells (bytesRow s (grownCap w s.size 0 e)) e ((bytesRow s (grownCap w s.size 0 e)).size, (bytesRow s (grownCap w s.size 0 e)).size + 1))
    refine .inr ⟨w.heap.size, 0, _, rfl, grownCap_ge w s.size 0 e, ?_, ?_, ?_⟩
    · show w.heap.size < (w.drew.alloc _).heap.size
      simp
    · intro hm
      exact Nat.lt_irrefl _ (M_lt hs.ok hm)
    · have hal : AllLen 1 (esOfBytes s) := by intro e he; simp [esOfBytes] at he; obtain ⟨_, _, rfl⟩ := he; rfl
      refine (RepE_iff hal).2 fun i x hi => ?_
      simp only [esOfBytes, List.getElem?_map, Option.map_eq_some_iff] at hi
      obtain ⟨b, hb, rfl⟩ := hi
      refine RepC_iff.2 fun j y hj => ?_
      cases j with
      | succ j => simp at hj
      | zero =>
        simp only [List.getElem?_cons_zero, Option.some.injEq] at hj
        subst hj
        refine ⟨.int .u8 b.toNat, ?_, rfl, by simp only [RepV]⟩
        show (w.drew.alloc _).cell? ⟨w.heap.size, 0 + i * 1 + 0, none⟩ = _
        have hlt : i < s.data.toList.length := (List.getElem?_eq_some_iff.1 hb).1
        have e0 : (w.drew.alloc (.cells (bytesRow s (grownCap w s.size 0 e)) e ((bytesRow s (grownCap w s.size 0 e)).size, (bytesRow s (grownCap w s.size 0 e)).size + 1))).cell? ⟨w.heap.size, i, none⟩ = (bytesRow s (grownCap w s.size 0 e))[i]? :=
          cell_of_row _ w.heap.size i _ e _ hnew
        rw [show 0 + i * 1 + 0 = i by omega, e0]
        unfold bytesRow
        rw [Array.getElem?_append_left (by simpa using hlt)]
        simp only [Array.getElem?_map]
        have : s.data[i]? = some b := by simpa using hb
        rw [this]
        rfl

/-! ### a struct is made -/
theorem foldl_set (off : Nat) : ∀ (vs : List Value) (j : Nat) (cells : Array Value), off + j + vs.length ≤ cells.size →
    ((vs.zipIdx j).foldl (fun (cs : Array Value) (p : Value × Nat) => cs.setIfInBounds (off + p.2) p.1) cells).toList = cells.toList.take (off + j) ++ vs ++ cells.toList.drop (off + j + vs.length)
  | [], j, cells, _ => by simp
  | v :: vs, j, cells, h => by
    simp only [List.length_cons] at h
    simp only [List.zipIdx_cons, List.foldl_cons]
    rw [foldl_set off vs (j + 1) (cells.setIfInBounds (off + j) v) (by simp; omega)]
    have hcl : cells.toList.length = cells.size := Array.length_toList
    have := list_seg_step cells.toList (off + j) v vs (by omega)
    simpa [Array.toList_setIfInBounds, Nat.add_assoc] using this

theorem fold_rep {c : Cx} {z avs : List AV} {cells : Array Value} {v : Value} {off : Nat} (hz : RepL c z cells.toList) (hv : RepL c avs v.cells.toList) (hfit : off + avs.length ≤ z.length) :
    RepL c (setCells z off avs) (v.cells.zipIdx.foldl (fun (cs : Array Value) (p : Value × Nat) => cs.setIfInBounds (off + p.2) p.1) cells).toList := by
  have hl := RepL_length hv
  have hzl := RepL_length hz
  have e : (v.cells.zipIdx.foldl (fun (cs : Array Value) (p : Value × Nat) => cs.setIfInBounds (off + p.2) p.1) cells).toList = cells.toList.take off ++ v.cells.toList ++ cells.toList.drop (off + v.cells.toList.length) := by
    have := foldl_set off v.cells.toList 0 cells (by rw [← Array.length_toList (xs := cells)]; omega)
    rw [Nat.add_zero] at this
    rw [← this, ← Array.foldl_toList, Array.toList_zipIdx]
  rw [e]
  refine RepL_iff.2 ⟨?_, fun j x hj => ?_⟩
  · rw [setCells_length, List.length_append, List.length_append, List.length_take, List.length_drop]
    omega
  · rw [setCells_get avs z off j (by omega)] at hj
    rw [splice_get _ _ _ _ (by omega)]
    by_cases h1 : off ≤ j ∧ j < off + avs.length
    · rw [if_pos h1] at hj
      rw [if_pos (by omega)]
      exact (RepL_iff.1 hv).2 _ _ hj
    · rw [if_neg h1] at hj
      rw [if_neg (by omega)]
      exact (RepL_iff.1 hz).2 _ _ hj

theorem fill_build {c : Cx} {place : Nat → Option (Nat × Nat)} : ∀ (is : List Nat) (ps : List (Nat × Nat)) (xs : List AV) (vs : List Value) (z : List AV) (cells : Array Value) {K : List AV → Prop},
    is.mapM place = some ps → RepT c xs vs → is.length = vs.length → RepL c z cells.toList → buildGo z ps xs K → ∃ z' cells', Instr.fill place cells (is.zip vs) = some cells' ∧ RepL c z' cells'.toList ∧ K z'
  | [], ps, xs, vs, z, cells, K, hm, hr, hl, hz, h => by
    simp at hm
    subst hm
    cases vs with
    | cons _ _ => simp at hl
    | nil =>
      cases xs with
      | cons x xs => simp [RepT] at hr
      | nil => exact ⟨z, cells, rfl, hz, h⟩
  | i :: is, ps, xs, vs, z, cells, K, hm, hr, hl, hz, h => by
    simp only [List.mapM_cons, Option.bind_eq_bind, Option.pure_def, Option.bind_eq_some_iff, Option.some.injEq] at hm
    obtain ⟨p, hp, ps', hps, rfl⟩ := hm
    cases vs with
    | nil => simp at hl
    | cons v vs =>
      cases xs with
      | nil => simp [RepT] at hr
      | cons x xs =>
        simp only [RepT] at hr
        obtain ⟨v', vs', e, hx, hr⟩ := hr
        injection e with e1 e2
        subst e1 e2
        obtain ⟨off, size⟩ := p
        simp only [buildGo] at h
        obtain ⟨h1, h2, h3, h⟩ := h
        have hc := cells_rep h2 hx
        have hcl := RepL_length hc
        have hzl := RepL_length hz
        have hsz : v.cells.size = size := by rw [← Array.length_toList]; omega
        have hzs : cells.size = z.length := by rw [← Array.length_toList]; omega
        obtain ⟨z', cells', h4, h5, h6⟩ := fill_build is ps' xs vs _ _ hps hr (by simpa using hl) (fold_rep hz hc (by omega)) h
        refine ⟨z', cells', ?_, h5, h6⟩
        simp only [List.zip_cons_cons, Instr.fill, hp]
        rw [if_neg]
        · exact h4
        · simp [hsz, hzs]
          omega

def placesOf (P : Program) (t : TypeId) : Option (List (Nat × Nat)) :=
  match P.underlying t with
  | some (.struct fields) => fields.toList.mapM fun f => (P.info? f.type).map fun i => (f.offset, i.size)
  | _ => none

theorem map_zip_fst {α β : Type} (l : List (α × β)) : (l.map (·.1)).zip (l.map (·.2)) = l := by
  induction l with
  | nil => rfl
  | cons x l ih => simp [ih]

theorem op_build (hs : Sim X n base w0 st a w β) (hd : ∀ d, o.dst = some d → d < n) {t : TypeId} {parts : Array (Nat × Operand)} (ho : o.op = .build t parts) {pl ps : List (Nat × Nat)} {z : List AV}
    (hz : zeroOf P t = some z) (hpl : placesOf P t = some pl) (hps : (parts.toList.map (·.1)).mapM (pl.toArray[·]?) = some ps)
    {xs : List AV} (hr : RepT (cx X st.H w β) xs (parts.toList.map fun p => a.eval p.2)) {F d} (h : stepH F (.build z ps) xs st.H d K) : Goal P X n base w0 o st K a w := by
  simp only [stepH] at h
  obtain ⟨xs', us, h, ok1, le1, _, r1, _, _⟩ := freezeNL_sound hs.ok (FrzOf.refl _) xs _ hr h
  obtain ⟨i, zv, hi, hz1, hz2⟩ := zeroOf_spec hz
  unfold placesOf at hpl
  split at hpl
  · rename_i fields hu
    obtain ⟨z', cells', hf, hc, hK⟩ := fill_build (place := (pl.toArray[·]?)) (parts.toList.map (·.1)) ps xs' _ z zv.cells hps r1 (by simp) (ofVals_rep hz2) h
    have hbuilt : P.built t (parts.map fun (j, x) => (j, a.eval x)).toList = some cells' := by
      unfold Program.built
      rw [hi, hu]
      simp only [hz1, hpl]
      rw [← hf]
      congr 1
      rw [← map_zip_fst (parts.map fun (j, x) => (j, a.eval x)).toList]
      simp [Function.comp_def]
    refine Goal.afterFreeze hs hd (us2 := []) (by simpa using hK) (v' := .agg cells') ?_ le1 ok1 (.refl _) ?_
    · unfold execOp
      simp only [ho, Sem.run_bind, run_build w t _ cells' hbuilt, Result.andThen_ok, Sem.run_pure]
    · simp only [RepV]
      exact ⟨cells'.toList, by simp, hc⟩
  · cases hpl

end
end Go.Ev
