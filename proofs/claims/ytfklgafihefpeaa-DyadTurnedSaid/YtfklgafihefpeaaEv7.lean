/- An abstract evaluator, part 7: structs and slices made, cut, added to; calls. -/
import Derived.Test.YtfklgafihefpeaaEv6
import Derived.Laws.IdiomStrings
set_option linter.unusedVariables false
set_option linter.unusedSimpArgs false
namespace Go.Ev
open Go.RowKit

section
variable {P : Program} {X : Nat → Prop} {n : Nat} {base : Base} {w0 w : World} {st : St} {a : Act} {β : Nat → Nat → Option Nat} {o : Oper} {K : Kont}

/-! ### parts -/
theorem op_field (hs : Sim X n base w0 st a w β) (hd : ∀ d, o.dst = some d → d < n) {t : TypeId} {f : Nat} {x : Operand} (ho : o.op = .field t x f)
    {fs : Array Field} {fd : Field} {sz : Option Nat} (hu : P.underlying t = some (.struct fs)) (hf : fs[f]? = some fd) (ht : aggOf P fd.type sz)
    {xs : List AV} (hr : RepT (cx X st.H w β) xs [a.eval x]) {F d} (h : stepH F (.field fd.offset sz) xs st.H d K) : Goal P X n base w0 o st K a w := by
  obtain ⟨p, rfl, hp⟩ := RepT1 hr
  cases p <;> simp only [stepH] at h
  rename_i cs
  simp only [RepV] at hp
  obtain ⟨vs, hv, hvs⟩ := hp
  obtain ⟨y, hy, hK⟩ := someQ_elim h
  obtain ⟨d', hu', ht⟩ := ht
  have hfl := Array.getElem?_eq_some_iff.1 hf
  cases sz with
  | none =>
    simp only [takeAt] at hy
    obtain ⟨v, hv', _, hrv⟩ := (RepL_iff.1 hvs).2 _ _ hy
    refine Goal.pure hs hd hK (v' := v) ?_ hrv
    simp only at ht
    unfold execOp
    simp [ho, hv, Instr.field, run_underlying hu, hf, asAgg, part, run_isAgg hu', ht, hv']
  | some m =>
    simp only [takeAt] at hy
    split at hy
    · rename_i hle
      injection hy with hy
      subst hy
      have hl := RepL_length hvs
      simp only at ht
      cases hq : P.info? fd.type with
      | none => rw [hq] at ht; simp at ht
      | some ti =>
        have hsz : ti.size = m := by have := ht.2; rw [hq] at this; simpa using this
        refine Goal.pure hs hd hK (v' := .agg (vs.toArray.extract fd.offset (fd.offset + m))) ?_ ?_
        · unfold execOp
          simp [ho, hv, Instr.field, run_underlying hu, hf, asAgg, part, run_isAgg hu', ht.1, sizeOf, typeInfo, hq, hsz]
        · simp only [RepV]
          refine ⟨(vs.drop fd.offset).take m, ?_, RepL_iff.2 ⟨by simp [hl], fun j z hj => ?_⟩⟩
          · congr 1
            apply Array.toList_inj.1
            simp [List.extract_eq_take_drop]
          · rw [List.getElem?_take] at hj ⊢
            split at hj
            · rename_i hjm
              rw [if_pos hjm]
              rw [List.getElem?_drop] at hj ⊢
              exact (RepL_iff.1 hvs).2 _ _ hj
            · cases hj
    · cases hy

/-! ### cuts -/
theorem op_sliceS (hs : Sim X n base w0 st a w β) (hd : ∀ d, o.dst = some d → d < n) {t : TypeId} {x : Operand} {lo hi : Option Operand} (ho : o.op = .slice t x lo hi none)
    (hu : P.underlying t = some .string) {xs : List AV} (hr : RepT (cx X st.H w β) xs (a.eval x :: (lo.toList ++ hi.toList).map a.eval)) {F d}
    (h : stepH F (.sliceS lo.isSome hi.isSome) xs st.H d K) : Goal P X n base w0 o st K a w := by
  cases xs with
  | nil => simp [RepT] at hr
  | cons p ps =>
    simp only [RepT] at hr
    obtain ⟨v, vs', e, hp, hr⟩ := hr
    injection e with e1 e2
    subst e1 e2
    cases p <;> simp only [stepH] at h
    rename_i s
    simp only [RepV] at hp
    cases lo <;> cases hi <;> simp only [Option.toList, List.nil_append, List.append_nil, List.cons_append, List.map_cons, List.map_nil] at hr
    · cases ps with
      | cons _ _ => simp [RepT] at hr
      | nil =>
        simp only [sliceQ, loOf, Option.isSome_none, Bool.false_eq_true, if_false, Int.toNat_natCast, Int.toNat_zero] at h
        refine Goal.pure hs hd h.2.2.2 (v' := litV (.str _)) ?_ (litV_rep rfl)
        unfold execOp
        simp [ho, hp, Instr.sliceAt, Instr.slice, Instr.sliceBounds, run_underlying hu, litV]
    · obtain ⟨q, rfl, hq⟩ := RepT1 hr
      simp only [sliceQ, loOf, Option.isSome_none, Option.isSome_some, Bool.false_eq_true, if_false, if_true, List.headD_cons] at h
      cases q <;> simp only at h
      simp only [RepV] at hq
      obtain ⟨h1, h2, h3, hK⟩ := h
      refine Goal.pure hs hd hK (v' := litV (.str _)) ?_ (litV_rep rfl)
      unfold execOp
      simp [ho, hp, hq, Instr.sliceAt, Instr.slice, Instr.sliceBounds, Instr.sliceBound, asIntOf, run_underlying hu, litV, h2, h3]
    · obtain ⟨q, rfl, hq⟩ := RepT1 hr
      simp only [sliceQ, loOf, Option.isSome_none, Option.isSome_some, Bool.false_eq_true, if_false, if_true, List.headD_cons, Int.toNat_natCast] at h
      cases q <;> simp only at h
      simp only [RepV] at hq
      obtain ⟨h1, h2, h3, hK⟩ := h
      refine Goal.pure hs hd hK (v' := litV (.str _)) ?_ (litV_rep rfl)
      unfold execOp
      simp [ho, hp, hq, Instr.sliceAt, Instr.slice, Instr.sliceBounds, Instr.sliceBound, asIntOf, run_underlying hu, litV, h1, h2]
    · obtain ⟨q, q2, rfl, hq, hq2⟩ := RepT2 hr
      simp only [sliceQ, loOf, Option.isSome_some, if_true, List.headD_cons, List.tail_cons] at h
      cases q <;> cases q2 <;> simp only at h
      simp only [RepV] at hq hq2
      rename_i l _ h'
      obtain ⟨h1, h2, h3, hK⟩ := h
      refine Goal.pure hs hd hK (v' := litV (.str _)) ?_ (litV_rep rfl)
      have h0 : 0 ≤ h' := Int.le_trans h1 h2
      have h4 : ¬ max h' 0 < l := by omega
      unfold execOp
      simp [ho, hp, hq, hq2, Instr.sliceAt, Instr.slice, Instr.sliceBounds, Instr.sliceBound, asIntOf, run_underlying hu, litV, h0, h1, h3, h4]

/-! ### a value with its freezing -/
theorem Goal.afterFreeze (hs : Sim X n base w0 st a w β) (hd : ∀ d, o.dst = some d → d < n) {v : AV} {us us2 : Upds} {v' : Value} {w' : World} {β' : Nat → Nat → Option Nat} (hK : K v (us ++ us2))
    (hrun : (execOp a.eval o).run P w = .ok (.value v') w') (hle1 : (cx X st.H w β).Le (cx X (updH st.H us) w β))
    (ok : HOK X base w0 (updH (updH st.H us) us2) w' β') (hle : (cx X (updH st.H us) w β).Le (cx X (updH (updH st.H us) us2) w' β')) (hr : RepV (cx X (updH (updH st.H us) us2) w' β') v v') : Goal P X n base w0 o st K a w := by
  rw [← updH_append] at ok hr
  refine Goal.value hs hd hK hrun ok ?_ hr
  rw [updH_append]
  exact hle1.trans hle

/-- A slice cut. -/
theorem sl_cut {c : Cx} {es : List (List AV)} {b off cap sz l h : Nat} (hal : AllLen sz es) (hl : l ≤ h) (hh : h ≤ es.length) (hcap : es.length ≤ cap) (hb : b < c.w.heap.size) (hm : ¬ c.M b) (hE : RepE c.pers es b off) :
    RepV c (.sl ((es.take h).drop l)) (.slice (if cap = l then some ⟨b, off, none⟩ else some ⟨b, off + l * sz, none⟩) (h - l) (cap - l)) := by
  have hlen : ((es.take h).drop l).length = h - l := by rw [List.length_drop, List.length_take]; omega
  simp only [RepV, hlen]
  by_cases hcl : cap = l
  · rw [if_pos hcl]
    refine .inr ⟨b, off, cap - l, rfl, by omega, hb, hm, ?_⟩
    have : (es.take h).drop l = [] := List.eq_nil_of_length_eq_zero (by omega)
    rw [this]
    simp only [RepE]
  · rw [if_neg hcl]
    refine .inr ⟨b, off + l * sz, cap - l, rfl, by omega, hb, hm, ?_⟩
    have hal' : AllLen sz ((es.take h).drop l) := fun e he => hal e (List.mem_of_mem_take (List.mem_of_mem_drop he))
    refine (RepE_iff hal').2 fun i e he => ?_
    rw [List.getElem?_drop, List.getElem?_take] at he
    split at he
    · have := (RepE_iff hal).1 hE _ _ he
      rwa [show off + (l + i) * sz = off + l * sz + i * sz by rw [Nat.add_mul]; omega] at this
    · cases he

/-- What cutting a slice comes to. -/
theorem slice_run {t e : TypeId} {x : Operand} {lo hi : Option Operand} (ho : o.op = .slice t x lo hi none)
    (hu : P.underlying t = some (.slice e)) {i : TypeInfo} (hi' : P.info? e = some i) {c : Cx} {ps : List AV} (hr : RepT c ps ((lo.toList ++ hi.toList).map a.eval)) {m : Nat} {Kq : Nat → Nat → Prop} (h : sliceQ m lo.isSome hi.isSome ps Kq) :
    ∃ l h', Kq l h' ∧ l ≤ h' ∧ h' ≤ m ∧ (∀ (b off cap : Nat), a.eval x = .slice (some ⟨b, off, none⟩) m cap → m ≤ cap →
          (execOp a.eval o).run P w = .ok (.value (.slice (if cap = l then some ⟨b, off, none⟩ else some ⟨b, off + l * i.size, none⟩) (h' - l) (cap - l))) w) ∧
        (a.eval x = .slice none 0 0 → m = 0 → (execOp a.eval o).run P w = .ok (.value (.slice none (h' - l) (0 - l))) w) := by
  cases lo <;> cases hi <;> simp only [Option.toList, List.nil_append, List.append_nil, List.cons_append, List.map_cons, List.map_nil] at hr
  · cases ps with
    | cons _ _ => simp [RepT] at hr
    | nil =>
      simp only [sliceQ, loOf, Option.isSome_none, Bool.false_eq_true, if_false, Int.toNat_natCast, Int.toNat_zero] at h
      refine ⟨0, m, h.2.2.2, Nat.zero_le _, Nat.le_refl _, fun b off cap hv hcap => ?_, fun hv hz => ?_⟩
      · unfold execOp
        simp [ho, hv, Instr.sliceAt, Instr.slice, Instr.sliceBounds, run_underlying hu, sizeOf, typeInfo, hi', Addr.add_lit]
      · unfold execOp
        simp [ho, hv, hz, Instr.sliceAt, Instr.slice, Instr.sliceBounds, run_underlying hu, sizeOf, typeInfo, hi']
  · obtain ⟨q, rfl, hq⟩ := RepT1 hr
    simp only [sliceQ, loOf, Option.isSome_none, Option.isSome_some, Bool.false_eq_true, if_false, if_true, List.headD_cons] at h
    cases q <;> simp only at h
    rename_i kk hh
    simp only [RepV] at hq
    obtain ⟨h1, h2, h3, hK⟩ := h
    refine ⟨0, hh.toNat, hK, Nat.zero_le _, by omega, fun b off cap hv hcap => ?_, fun hv hz => ?_⟩
    · have h3' : hh ≤ (cap : Int) := by omega
      unfold execOp
      simp [ho, hv, hq, Instr.sliceAt, Instr.slice, Instr.sliceBounds, Instr.sliceBound, asIntOf, run_underlying hu, sizeOf, typeInfo, hi', Addr.add_lit, h2, h3']
    · have h3' : hh ≤ 0 := by omega
      unfold execOp
      simp [ho, hv, hq, Instr.sliceAt, Instr.slice, Instr.sliceBounds, Instr.sliceBound, asIntOf, run_underlying hu, sizeOf, typeInfo, hi', h2, h3']
  · obtain ⟨q, rfl, hq⟩ := RepT1 hr
    simp only [sliceQ, loOf, Option.isSome_none, Option.isSome_some, Bool.false_eq_true, if_false, if_true, List.headD_cons, Int.toNat_natCast] at h
    cases q <;> simp only at h
    rename_i kk ll
    simp only [RepV] at hq
    obtain ⟨h1, h2, h3, hK⟩ := h
    refine ⟨ll.toNat, m, hK, by omega, Nat.le_refl _, fun b off cap hv hcap => ?_, fun hv hz => ?_⟩
    · have e1 : ∀ (z : Option Addr) (y : Option Addr), (if cap = ll.toNat then z else y) = (if cap = ll.toNat then z else y) := fun _ _ => rfl
      unfold execOp
      simp [ho, hv, hq, Instr.sliceAt, Instr.slice, Instr.sliceBounds, Instr.sliceBound, asIntOf, run_underlying hu, sizeOf, typeInfo, hi', Addr.add_lit, h1, h2]
    · have h2' : ll ≤ 0 := by omega
      have h2'' : ll.toNat = 0 := by omega
      unfold execOp
      simp [ho, hv, hq, Instr.sliceAt, Instr.slice, Instr.sliceBounds, Instr.sliceBound, asIntOf, run_underlying hu, sizeOf, typeInfo, hi', h1, h2', h2'', hz]
  · obtain ⟨q, q2, rfl, hq, hq2⟩ := RepT2 hr
    simp only [sliceQ, loOf, Option.isSome_some, if_true, List.headD_cons, List.tail_cons] at h
    cases q <;> cases q2 <;> simp only at h
    rename_i kk ll kk2 hh
    simp only [RepV] at hq hq2
    obtain ⟨h1, h2, h3, hK⟩ := h
    have h0 : 0 ≤ hh := Int.le_trans h1 h2
    have h4 : ¬ max hh 0 < ll := by omega
    refine ⟨ll.toNat, hh.toNat, hK, by omega, by omega, fun b off cap hv hcap => ?_, fun hv hz => ?_⟩
    · have h3' : hh ≤ (cap : Int) := by omega
      unfold execOp
      simp [ho, hv, hq, hq2, Instr.sliceAt, Instr.slice, Instr.sliceBounds, Instr.sliceBound, asIntOf, run_underlying hu, sizeOf, typeInfo, hi', Addr.add_lit, h0, h1, h3', h4]
    · have h3' : hh ≤ 0 := by omega
      have h2'' : ll.toNat = 0 := by omega
      have h3'' : hh.toNat = 0 := by omega
      have h5 : ¬ 0 < ll := by omega
      unfold execOp
      simp [ho, hv, hq, hq2, Instr.sliceAt, Instr.slice, Instr.sliceBounds, Instr.sliceBound, asIntOf, run_underlying hu, sizeOf, typeInfo, hi', h0, h1, h3', h5, h2'', h3'']


theorem op_sliceL (hs : Sim X n base w0 st a w β) (hd : ∀ d, o.dst = some d → d < n) {t e : TypeId} {x : Operand} {lo hi : Option Operand} (ho : o.op = .slice t x lo hi none)
    (hu : P.underlying t = some (.slice e)) {i : TypeInfo} (hi' : P.info? e = some i) {xs : List AV} (hr : RepT (cx X st.H w β) xs (a.eval x :: (lo.toList ++ hi.toList).map a.eval)) {F d}
    (h : stepH F (.sliceL i.size lo.isSome hi.isSome) xs st.H d K) : Goal P X n base w0 o st K a w := by
  cases xs with
  | nil => simp [RepT] at hr
  | cons p ps =>
    simp only [RepT] at hr
    obtain ⟨v, vs', ee, hp, hr⟩ := hr
    injection ee with e1 e2
    subst e1 e2
    simp only [stepH] at h
    rcases h with h | h
    · obtain ⟨p', us, h, ok1, le1, _, r1, pp⟩ := freeze_sound hs.ok (FrzOf.refl _) hp h
      cases p' <;> simp only at h
      rename_i es
      obtain ⟨hal, h⟩ := h
      simp only [RepV] at r1
      obtain ⟨l, h', hK, hlh, hhe, k1, k2⟩ := slice_run (w := w) (a := a) ho hu hi' hr h
      rcases r1 with ⟨hv, hz⟩ | ⟨b, off, cap, hv, hcap, hb, hm, hE⟩
      · have hl0 : l = 0 := by omega
        have hh0 : h' = 0 := by omega
        subst hl0 hh0
        refine Goal.afterFreeze hs hd (us2 := []) (by simpa using hK) (k2 hv hz) le1 ok1 (.refl _) ?_
        simp [RepV]
      · refine Goal.afterFreeze hs hd (us2 := []) (by simpa using hK) (k1 b off cap hv hcap) le1 ok1 (.refl _) ?_
        exact sl_cut hal hlh hhe hcap hb hm hE
    · unfold sliceAlt at h
      split at h
      · rename_i s g sz' m
        obtain ⟨rfl, h⟩ := h
        obtain ⟨l, h', hK, hlh, hhe, k1, k2⟩ := slice_run (w := w) (a := a) ho hu hi' hr h
        have hp' := hp
        simp only [RepV] at hp'
        obtain ⟨hg, hp'⟩ := hp'
        rcases hK with ⟨hlt, hK⟩ | ⟨rfl, hK⟩
        · rcases hp' with ⟨_, _, hz⟩ | ⟨b, cap, cur, e0, hβ, hv, hn, hm, hcur, hcs⟩
          · omega
          · refine Goal.pure hs hd hK (k1 b 0 cap hv hn) ?_
            rw [if_neg (by omega), Nat.zero_add]
            simp only [RepV]
            exact ⟨hg, b, cap - l, cur, e0, hβ, rfl, by omega, by omega, hcur⟩
        · split at hK
          · rename_i g' e0 sz2 es hH
            obtain ⟨rfl, rfl, hlen, hK⟩ := hK
            obtain ⟨hal, hblk⟩ := hs.ok.hp s g _ hH
            have halT : AllLen i.size (es.take h') := fun y hy => hal y (List.mem_of_mem_take hy)
            obtain ⟨ok1, le1⟩ := hs.ok.regen s (β s g) (.arr e0 i.size (es.take h')) trivial (fun c' hle hw => by
              refine ⟨halT, ?_⟩
              rcases hp' with ⟨hb, _, hz⟩ | ⟨b, cap, cur, e1, hb, hv, hn, hm, hcur, hcs⟩
              · rw [show β s g = none from hb]
                rw [show β s g = none from hb] at hblk
                simp only at hblk ⊢
                rw [hblk, List.take_nil]
              · rw [show β s g = some b from hb]
                rw [show β s g = some b from hb] at hblk
                obtain ⟨h0, cur', hcur', hfit, hE⟩ := hblk
                refine ⟨h0, cur', by rw [hw]; exact hcur', Nat.le_trans (Nat.mul_le_mul_right _ (by rw [List.length_take]; exact Nat.min_le_right _ _)) hfit, ?_⟩
                refine (RepE_iff halT).2 fun j y hy => ?_
                rw [List.getElem?_take] at hy
                split at hy
                · exact (RepE_iff hal).1 (RepE.mono hle.pers es b 0 (by rw [show c'.pers.w = w from hw]; rfl) hE) j y hy
                · cases hy) (fun b hb => ⟨g, _, hH, trivial, hb⟩)
            rw [hH] at ok1 le1
            have hrg : ∀ v', RepV (cx X (upd st.H s (g + 1, some (.arr e0 i.size (es.take h')))) w (βset β s (g + 1) (β s g))) (.view s (g + 1) i.size h') v' → (execOp a.eval o).run P w = .ok (.value v') w → Goal P X n base w0 o st K a w := by
              intro v' hv' hrun
              exact Goal.value hs hd hK hrun ok1 le1 hv'
            have hgen : (upd st.H s (g + 1, some (Blk.arr e0 i.size (es.take h'))) s).1 = g + 1 := by rw [upd_same]
            rcases hp' with ⟨hb, hv, hz⟩ | ⟨b, cap, cur, e1, hb, hv, hn, hm, hcur, hcs⟩
            · have hh0 : h' = 0 := by omega
              subst hh0
              refine hrg _ ?_ (k2 hv hz)
              simp only [RepV]
              exact ⟨⟨Nat.succ_pos _, by show _ ≤ (upd st.H s _ s).1; rw [hgen]; exact Nat.le_refl _⟩, .inl ⟨by show βset β s (g + 1) (β s g) s (g + 1) = none; simp only [βset, and_self, if_true]; exact hb, by simp⟩⟩
            · refine hrg _ ?_ (k1 b 0 cap hv hn)
              simp only [RepV]
              refine ⟨⟨Nat.succ_pos _, by show _ ≤ (upd st.H s _ s).1; rw [hgen]; exact Nat.le_refl _⟩, .inr ⟨b, cap, cur, e1, by show βset β s (g + 1) (β s g) s (g + 1) = some b; simp only [βset, and_self, if_true]; exact hb, ?_, by omega, hm, hcur, hcs⟩⟩
              simp
          · exact hK.elim
      · obtain ⟨l, h', hK, hlh, hhe, k1, k2⟩ := slice_run (w := w) (a := a) ho hu hi' hr h
        simp only [RepV] at hp
        have hl0 : l = 0 := by omega
        have hh0 : h' = 0 := by omega
        subst hl0 hh0
        exact Goal.pure hs hd hK (k2 hp rfl) (by simp [RepV])
      · exact h.elim

end
end Go.Ev
