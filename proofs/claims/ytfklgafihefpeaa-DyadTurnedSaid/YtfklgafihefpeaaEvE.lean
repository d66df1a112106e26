/- An abstract evaluator, part 14: an operation with its guard; a region in its own order; what a step hangs on. -/
import Derived.Test.YtfklgafihefpeaaEvE0
set_option linter.unusedVariables false
set_option linter.unusedSimpArgs false
namespace Go.Ev
open Go.RowKit

def looks (o : AO) : List Nat :=
  (o.args.filterMap fun | .t n => some n | .c _ => none) ++ (match o.guard with | some (t, _) => [t] | none => [])

def footG (o : AO) (st : St) : List (Nat × Bool) :=
  match o.guard with
  | none => foot o.head (o.args.map st.ev) (o.dst.getD 0)
  | some (t, want) => match st.env t with
    | .bool b => if b = want then foot o.head (o.args.map st.ev) (o.dst.getD 0) else []
    | _ => []

/-- A step has come to v and us, by its operands and what lies at its sites alone. -/
def Step1 (F : Nat → List AV → AV → Prop) (o : AO) (st : St) (v : AV) (us : Upds) : Prop :=
  sitesIn us (wrOf (footG o st)) ∧ ∀ st2 : St, (∀ t ∈ looks o, st2.env t = st.env t) → (∀ s ∈ rdOf (footG o st), st2.H s = st.H s) →
    footG o st2 = footG o st ∧ ∀ K' : St → Prop, K' (st2.app o.dst v us) → stepG F o st2 K'

theorem evs_same {o : AO} {st st2 : St} (h : ∀ t ∈ looks o, st2.env t = st.env t) : o.args.map st2.ev = o.args.map st.ev := by
  apply List.map_congr_left
  intro x hx
  cases x with
  | c a => rfl
  | t n => exact h n (List.mem_append.2 (.inl (List.mem_filterMap.2 ⟨.t n, hx, rfl⟩)))

theorem stepG_picks {F : Nat → List AV → AV → Prop} {o : AO} {st : St} {K : St → Prop} (h : stepG F o st K) : ∃ v us, K (st.app o.dst v us) ∧ Step1 F o st v us := by
  cases hg : o.guard with
  | none =>
    simp only [stepG, hg] at h
    obtain ⟨v, us, hK, h1, h2⟩ := stepH_picks h
    have hf : ∀ st, footG o st = foot o.head (o.args.map st.ev) (o.dst.getD 0) := fun st => by simp only [footG, hg]
    refine ⟨v, us, hK, by rw [hf]; exact h1, fun st2 e1 e2 => ?_⟩
    have e3 := evs_same e1
    refine ⟨by rw [hf, hf, e3], fun K' hK' => ?_⟩
    simp only [stepG, hg, e3]
    rw [hf] at e2
    exact h2 st2.H e2 _ hK'
  | some gw =>
    obtain ⟨t, want⟩ := gw
    have ht : t ∈ looks o := by simp [looks, hg]
    simp only [stepG, hg] at h
    cases hb : st.env t <;> rw [hb] at h <;> simp only at h
    case undef =>
      refine ⟨.undef, [], h, fun u hu => (by cases hu), fun st2 e1 e2 => ?_⟩
      have hb2 : st2.env t = .undef := by rw [e1 t ht, hb]
      refine ⟨by simp only [footG, hg, hb2, hb], fun K' hK' => ?_⟩
      simp only [stepG, hg, hb2]
      exact hK'
    rename_i b
    by_cases hbw : b = want
    · rw [if_pos hbw] at h
      obtain ⟨v, us, hK, h1, h2⟩ := stepH_picks h
      have hf : ∀ st, st.env t = .bool b → footG o st = foot o.head (o.args.map st.ev) (o.dst.getD 0) := fun st hs => by simp only [footG, hg, hs, if_pos hbw]
      refine ⟨v, us, hK, by rw [hf st hb]; exact h1, fun st2 e1 e2 => ?_⟩
      have e3 := evs_same e1
      have hb2 : st2.env t = .bool b := by rw [e1 t ht, hb]
      refine ⟨by rw [hf st2 hb2, hf st hb, e3], fun K' hK' => ?_⟩
      simp only [stepG, hg, hb2, if_pos hbw, e3]
      rw [hf st hb] at e2
      exact h2 st2.H e2 _ hK'
    · rw [if_neg hbw] at h
      refine ⟨.undef, [], h, fun u hu => (by cases hu), fun st2 e1 e2 => ?_⟩
      have hb2 : st2.env t = .bool b := by rw [e1 t ht, hb]
      refine ⟨by simp only [footG, hg, hb2, hb, if_neg hbw], fun K' hK' => ?_⟩
      simp only [stepG, hg, hb2, if_neg hbw]
      exact hK'

theorem Step1.run {F : Nat → List AV → AV → Prop} {o : AO} {st : St} {v : AV} {us : Upds} (h : Step1 F o st v us) : stepG F o st (· = st.app o.dst v us) :=
  (h.2 st (fun _ _ => rfl) (fun _ _ => rfl)).2 _ rfl

theorem RunOps_pick {F : Nat → List AV → AV → Prop} : ∀ {os : List AO} {K : St → Prop} {st : St}, RunOps F os K st → ∃ st', K st' ∧ RunOps F os (· = st') st
  | [], K, st, h => ⟨st, h, rfl⟩
  | o :: os, K, st, h => by
    simp only [RunOps] at h
    obtain ⟨v, us, h1, h2⟩ := stepG_picks h
    obtain ⟨st', hK, h3⟩ := RunOps_pick h1
    refine ⟨st', hK, ?_⟩
    simp only [RunOps]
    exact (h2.2 st (fun _ _ => rfl) (fun _ _ => rfl)).2 _ h3

section
variable {P : Program} {X : Nat → Prop} {n : Nat} {base : Base} {w0 w : World} {st : St} {a : Act} {β : Nat → Nat → Option Nat} {o : Oper}

theorem oper_sound {ops : Array Oper} (hs : Sim X n base w0 st a w β) {ao : AO} (hc : convO P n ops o = some ao) {K : St → Prop} (h : stepG (Fn P) ao st K) :
    ∃ st', K st' ∧ ∀ (next : Act → World → Prop) (Q : Exit → Act → World → Prop), (∀ a' w' β', Sim X n base w0 st' a' w' β' → next a' w') →
      if Region.wanted o (yielded ops a.tmps) then o.wp P a w next Q else next (a.put o.dst undef) w := by
  unfold convO at hc
  simp only [Option.bind_eq_some_iff] at hc
  obtain ⟨u, h3, hc⟩ := hc
  have h3 := guardO_spec h3
  have hdst : ∀ d, o.dst = some d → d < n := by
    intro d hd
    rw [hd] at h3
    simpa using h3
  have exec : ∀ (dst : Option Nat), dst = o.dst → (stepH (Fn P) (convH P o).1 ((convH P o).2.map st.ev) st.H (dst.getD 0) fun v us => K (st.app dst v us)) →
      ∃ st', K st' ∧ ∀ (next : Act → World → Prop) (Q : Exit → Act → World → Prop), (∀ a' w' β', Sim X n base w0 st' a' w' β' → next a' w') → o.wp P a w next Q := by
    intro dst hdd h
    subst hdd
    rcases convH_spec P o with ⟨hd, xs, args, h1, h2, he⟩ | he
    case inr =>
      rw [he] at h
      simp only [stepH] at h
    rw [he] at h
    obtain ⟨v, us, hK, hg⟩ := head_sound hs hdst h1 (opds_rep hs h2) h
    exact ⟨_, hK, hg⟩
  cases hg : o.guard with
  | none =>
    rw [hg] at hc
    injection hc with hc
    subst hc
    have hw : Region.wanted o (yielded ops a.tmps) = true := by unfold Region.wanted; rw [hg]
    simp only [hw, if_true]
    exact exec o.dst rfl h
  | some gw =>
    obtain ⟨j, want⟩ := gw
    rw [hg] at hc
    simp only [Option.bind_eq_some_iff, Option.map_eq_some_iff] at hc
    obtain ⟨t, ⟨oj, hoj, ht⟩, u2, h4, rfl⟩ := hc
    have h4 := guardO_spec h4
    simp only [decide_eq_true_eq] at h4
    simp only [stepG] at h
    cases hb : st.env t <;> rw [hb] at h <;> simp only at h
    case undef =>
      have hrep := hs.tm t
      rw [hb] at hrep
      simp only [RepV] at hrep
      have hy : yielded ops a.tmps j = none := by
        unfold yielded
        have hlt : t < a.tmps.size := by rw [hs.size]; exact h4
        have h5 : a.tmps[t]? = some undef := by
          rw [Array.getElem?_eq_getElem hlt]
          have : a.tmps.getD t undef = a.tmps[t] := by simp [hlt]
          rw [← this, hrep]
        simp [hoj, ht, h5, undef]
      have hw : Region.wanted o (yielded ops a.tmps) = false := by
        unfold Region.wanted
        rw [hg]
        simp only [hy]
        rfl
      simp only [hw, Bool.false_eq_true, if_false]
      exact ⟨_, h, fun next Q hn => hn _ _ β (hs.put hdst (us := []) hs.ok (.refl _) (by simp only [RepV]))⟩
    rename_i b
    have hrep := hs.tm t
    rw [hb] at hrep
    simp only [RepV] at hrep
    have hy : yielded ops a.tmps j = some b := by
      unfold yielded
      have hlt : t < a.tmps.size := by rw [hs.size]; exact h4
      have h5 : a.tmps[t]? = some (.bool b) := by
        rw [Array.getElem?_eq_getElem hlt]
        have : a.tmps.getD t undef = a.tmps[t] := by simp [hlt]
        rw [← this, hrep]
      simp [hoj, ht, h5]
    have hw : Region.wanted o (yielded ops a.tmps) = decide (b = want) := by
      unfold Region.wanted
      rw [hg]
      simp only [hy]
      cases b <;> cases want <;> rfl
    by_cases hbw : b = want
    · rw [if_pos hbw] at h
      simp only [hw, hbw, decide_true, if_true]
      exact exec o.dst rfl h
    · rw [if_neg hbw] at h
      simp only [hw, hbw, decide_false, Bool.false_eq_true, if_false]
      exact ⟨_, h, fun next Q hn => hn _ _ β (hs.put hdst (us := []) hs.ok (.refl _) (by simp only [RepV]))⟩

theorem mapM_get {α γ : Type} {f : α → Option γ} : ∀ {xs : List α} {ys : List γ}, xs.mapM f = some ys → ys.length = xs.length ∧ ∀ (i : Nat) x, xs[i]? = some x → ∃ y, ys[i]? = some y ∧ f x = some y
  | [], ys => fun h => by simp at h; subst h; simp
  | x :: xs, ys => fun h => by
    simp only [List.mapM_cons, Option.bind_eq_bind, Option.pure_def, Option.bind_eq_some_iff, Option.some.injEq] at h
    obtain ⟨y, hy, ys', hys, rfl⟩ := h
    obtain ⟨h1, h2⟩ := mapM_get hys
    refine ⟨by simp [h1], fun i z hz => ?_⟩
    cases i with
    | zero => simp only [List.getElem?_cons_zero, Option.some.injEq] at hz; subst hz; exact ⟨y, rfl, hy⟩
    | succ i => rw [List.getElem?_cons_succ] at hz ⊢; exact h2 i z hz

theorem wpOps_one {ops : Array Oper} {Q : Exit → Act → World → Prop} {i : Nat} {rest : List Nat} (hi : ops[i]? = some o) (h : if Region.wanted o (yielded ops a.tmps) then o.wp P a w (wpOps P ops Q rest) Q else wpOps P ops Q rest (a.put o.dst undef) w) :
    wpOps P ops Q (i :: rest) a w := by
  simp only [wpOps, hi]
  split
  · rename_i hw
    rw [if_pos hw] at h
    exact .inl h
  · rename_i hw
    rw [if_neg hw] at h
    exact h

theorem ops_sound {ops : Array Oper} {aos : List AO} (hc : ops.toList.mapM (convO P n ops) = some aos) {st' : St} : ∀ (m k : Nat) (st : St) (a : Act) (w : World) (β : Nat → Nat → Option Nat), k + m = ops.size → Sim X n base w0 st a w β →
    RunOps (Fn P) (aos.drop k) (· = st') st → ∀ (Q : Exit → Act → World → Prop), (∀ a' w' β', Sim X n base w0 st' a' w' β' → Q .normal a' w') → wpOps P ops Q (List.range' k m) a w
  | 0, k, st, a, w, β, hk, hs, h, Q, hQ => by
    have hl := (mapM_get hc).1
    have : aos.drop k = [] := List.drop_eq_nil_of_le (by rw [hl, Array.length_toList]; omega)
    rw [this] at h
    simp only [RunOps] at h
    subst h
    exact hQ _ _ β hs
  | m + 1, k, st, a, w, β, hk, hs, h, Q, hQ => by
    have hlt : k < ops.size := by omega
    obtain ⟨ao, hao, hconv⟩ := (mapM_get hc).2 k ops[k] (by simp [hlt])
    have hd : aos.drop k = ao :: aos.drop (k + 1) := by
      obtain ⟨hlt', he⟩ := List.getElem?_eq_some_iff.1 hao
      rw [← he]
      exact List.drop_eq_getElem_cons hlt'
    rw [hd] at h
    simp only [RunOps] at h
    obtain ⟨v, us, h1, h2⟩ := stepG_picks h
    obtain ⟨st1, e, hw1⟩ := oper_sound hs hconv h2.run
    subst e
    rw [List.range'_succ]
    exact wpOps_one (by simp [hlt]) (hw1 _ Q fun a1 w1 β1 hs1 => ops_sound hc m (k + 1) _ a1 w1 β1 (by omega) hs1 h1 Q hQ)

end
end Go.Ev
