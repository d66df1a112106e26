/- An abstract evaluator, part 12: structs compared; the small syntax out of the model's code; one operation. -/
import Derived.Test.YtfklgafihefpeaaEvB
set_option linter.unusedVariables false
set_option linter.unusedSimpArgs false
namespace Go.Ev
open Go.RowKit

def fkOf (P : Program) (t : TypeId) : Option FK :=
  match P.underlying t with
  | some (.int _) => some .i
  | some .bool => some .b
  | some .string => some .s
  | _ => none

def fieldKinds (P : Program) : List Field → Nat → Option (List FK)
  | [], _ => some []
  | f :: fs, j => if f.name != "_" && f.offset == j then (fkOf P f.type).bind fun k => (fieldKinds P fs (j + 1)).map (k :: ·) else none

section
variable {P : Program} {X : Nat → Prop} {n : Nat} {base : Base} {w0 w : World} {st : St} {a : Act} {β : Nat → Nat → Option Nat} {o : Oper} {K : Kont}

theorem eqFields_sound {c c2 : Cx} (d : Nat) : ∀ (fs : List Field) (j : Nat) (ks : List FK) (xs ys : List AV) (vs us : List Value) {b : Bool}, fieldKinds P fs j = some ks → RepL c xs (vs.drop j) → RepL c2 ys (us.drop j) →
    eqCells ks xs ys = some b → (Op.eqFields (d + 1) vs.toArray us.toArray fs).run P w = .ok b w
  | [], j, ks, xs, ys, vs, us, b, hf, _, _, h => by
    simp only [fieldKinds, Option.some.injEq] at hf
    subst hf
    unfold eqCells at h
    split at h <;> first | (injection h with h; subst h; rfl) | simp_all
  | f :: fs, j, ks, xs, ys, vs, us, b, hf, hx, hy, h => by
    simp only [fieldKinds] at hf
    split at hf
    · rename_i hfo
      simp only [Bool.and_eq_true, bne_iff_ne, ne_eq, beq_iff_eq] at hfo
      obtain ⟨hn, ho⟩ := hfo
      simp only [Option.bind_eq_some_iff, Option.map_eq_some_iff] at hf
      obtain ⟨fk, hfk, ks', hks, rfl⟩ := hf
      have hkind : (fk = .i → ∃ k0, P.underlying f.type = some (.int k0)) ∧ (fk = .b → P.underlying f.type = some .bool) ∧ (fk = .s → P.underlying f.type = some .string) ∧ ∃ dd, P.underlying f.type = some dd ∧ aggD dd = false := by
        unfold fkOf at hfk
        split at hfk
        · rename_i k0 hk; injection hfk with hfk; subst hfk; exact ⟨fun _ => ⟨k0, hk⟩, fun h => (by cases h), fun h => (by cases h), _, hk, rfl⟩
        · rename_i hk; injection hfk with hfk; subst hfk; exact ⟨fun h => (by cases h), fun _ => hk, fun h => (by cases h), _, hk, rfl⟩
        · rename_i hk; injection hfk with hfk; subst hfk; exact ⟨fun h => (by cases h), fun h => (by cases h), fun _ => hk, _, hk, rfl⟩
        · cases hfk
      obtain ⟨hki, hkb, hks', dd, hdd, hagg⟩ := hkind
      have hpart : ∀ (zs : List Value) (v : Value), zs[j]? = some v → (part f.type zs.toArray f.offset).run P w = .ok v w := by
        intro zs v hz
        rw [ho]
        simp [part, run_isAgg hdd, hagg, hz]
      cases xs with
      | nil => unfold eqCells at h; split at h <;> simp_all
      | cons x xs =>
        simp only [RepL] at hx
        obtain ⟨v, vs', e1, _, hxv, hxs⟩ := hx
        cases ys with
        | nil => unfold eqCells at h; split at h <;> simp_all
        | cons y ys =>
          simp only [RepL] at hy
          obtain ⟨u, us', e2, _, hyv, hys⟩ := hy
          have hv : vs[j]? = some v := by
            have := congrArg (·[0]?) e1
            simpa using this
          have hu : us[j]? = some u := by
            have := congrArg (·[0]?) e2
            simpa using this
          have hvs : vs.drop (j + 1) = vs' := by
            have := congrArg List.tail e1
            simpa using this
          have hus : us.drop (j + 1) = us' := by
            have := congrArg List.tail e2
            simpa using this
          subst hvs hus
          have step : ∀ (r : Bool) (b' : Bool), (Op.equalIn (d + 1) f.type v u).run P w = .ok r w → eqCells ks' xs ys = some b' → b = (r && b') → (Op.eqFields (d + 1) vs.toArray us.toArray (f :: fs)).run P w = .ok b w := by
            intro r b' hr hb hbb
            have ih := eqFields_sound d fs (j + 1) ks' xs ys vs us hks hxs hys hb
            simp only [Op.eqFields]
            rw [if_pos (by simpa using hn)]
            simp only [Sem.run_bind, hpart vs v hv, hpart us u hu, Result.andThen_ok, hr]
            cases r
            · simp [hbb]
            · simp [hbb, ih]
          unfold eqCells at h
          split at h
          · rename_i h1 h2 h3; cases h1
          · rename_i ks0 k p x' k' q y' h0 h1 h2
            injection h0 with h0 h0'
            injection h1 with h1 h1'
            injection h2 with h2 h2'
            subst h0 h0' h1 h1' h2 h2'
            split at h
            · rename_i hk
              subst hk
              simp only [Option.map_eq_some_iff] at h
              obtain ⟨b', hb, hbb⟩ := h
              simp only [RepV] at hxv hyv
              subst hxv hyv
              obtain ⟨k0, hk0⟩ := hki rfl
              exact step (decide (p = q)) b' (by rw [run_equalIn_int w d f.type k k0 p q hk0]; rfl) hb hbb.symm
            · cases h
          · rename_i ks0 p x' q y' h0 h1 h2
            injection h0 with h0 h0'
            injection h1 with h1 h1'
            injection h2 with h2 h2'
            subst h0 h0' h1 h1' h2 h2'
            simp only [Option.map_eq_some_iff] at h
            obtain ⟨b', hb, hbb⟩ := h
            simp only [RepV] at hxv hyv
            subst hxv hyv
            exact step (p == q) b' (run_equalIn_bool' w d f.type p q (hkb rfl)) hb hbb.symm
          · rename_i ks0 p x' q y' h0 h1 h2
            injection h0 with h0 h0'
            injection h1 with h1 h1'
            injection h2 with h2 h2'
            subst h0 h0' h1 h1' h2 h2'
            simp only [Option.map_eq_some_iff] at h
            obtain ⟨b', hb, hbb⟩ := h
            simp only [RepV] at hxv hyv
            subst hxv hyv
            exact step (p.toList == q.toList) b' (run_equalIn_string w d f.type p q (hks' rfl)) hb hbb.symm
          · cases h
    · cases hf

theorem op_eqAgg (hs : Sim X n base w0 st a w β) (hd : ∀ d, o.dst = some d → d < n) {neg : Bool} {t yt : TypeId} {x y : Operand} (ho : o.op = .binOp (if neg then .neq else .eql) t x y yt)
    {ks : List FK} (ht : P.underlying t = some (.struct (P.fieldsOf t))) (hst : P.stoodInHeld t = false) (hgt : P.eqGuardType P.depth t = false) (hks : fieldKinds P (P.fieldsOf t).toList 0 = some ks)
    {xs : List AV} (hr : RepT (cx X st.H w β) xs [a.eval x, a.eval y]) {F d} (h : stepH F (.eqAgg neg ks) xs st.H d K) : Goal P X n base w0 o st K a w := by
  obtain ⟨p, q, rfl, hp, hq⟩ := RepT2 hr
  cases p <;> cases q <;> simp only [stepH] at h
  rename_i p q
  obtain ⟨b, hb, hK⟩ := someQ_elim h
  simp only [RepV] at hp hq
  obtain ⟨vs, hv, hvs⟩ := hp
  obtain ⟨us, hu, hus⟩ := hq
  have hrun := eqFields_sound (P := P) (w := w) 9998 (P.fieldsOf t).toList 0 ks p q vs us hks (by simpa using hvs) (by simpa using hus) hb
  have heq := (run_equalIn_struct w 9999 t vs.toArray us.toArray ht hst).trans hrun
  refine Goal.pure hs hd hK (v' := litV (.bool _)) ?_ (litV_rep rfl)
  have hg := run_eqGuard_agg (P := P) w
  unfold execOp
  cases neg
  · simp only [ho, hv, hu, Sem.run_bind, Bool.false_eq_true, if_false, run_eqGuard_agg w _ t x y vs.toArray us.toArray hgt, Result.andThen_ok, run_eql_struct, heq, Sem.run_pure]
    rfl
  · simp only [ho, hv, hu, Sem.run_bind, if_true, run_eqGuard_agg w _ t x y vs.toArray us.toArray hgt, Result.andThen_ok, run_neq_struct, heq, Sem.run_pure]
    rfl

end
end Go.Ev
