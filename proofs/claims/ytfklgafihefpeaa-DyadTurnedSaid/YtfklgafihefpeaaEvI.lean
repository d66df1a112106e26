/- An abstract evaluator, part 18: a whole function; steps that tell the same otherwise; the rules of a walk. -/
import Derived.Test.YtfklgafihefpeaaEvH
set_option linter.unusedVariables false
set_option linter.unusedSimpArgs false
namespace Go.Ev
open Go.RowKit

inductive ARes where
  | tmp (t : Nat)
  | cell (t : Nat) (sz : Option Nat)

def convRes (P : Program) : ResultVar → Option ARes
  | .tmp t => some (.tmp t)
  | .cell a t => (aggSz P t).map fun sz => .cell a sz

def resOne (st : St) (r : ARes) (K : AV → Prop) : Prop :=
  match r with
  | .tmp t => K (st.env t)
  | .cell t sz => loadQ st.H sz (st.env t) fun v _ => K v

/-- The answer as one hands it on: a slice that is one's own is the caller's; all else is frozen. -/
def handQ (h : Heap) (v : AV) (K : AV → Prop) : Prop :=
  match v with
  | .view s g sz n => match h s with
    | (g', some (.arr e sz' es)) => g = g' ∧ sz' = sz ∧ es.length = n ∧ K (.own e sz es)
    | (g', some (.frz _ sz' es)) => g = g' ∧ sz' = sz ∧ es.length = n ∧ K (.sl es)
    | _ => False
  | v => freezeAQ h v fun v _ => K v

def resAll (st : St) : List ARes → (List AV → Prop) → Prop
  | [], K => K []
  | r :: rs, K => resOne st r fun v => resAll st rs fun vs => K (v :: vs)

def resQ (st : St) (rs : List ARes) (K : AV → Prop) : Prop :=
  match rs with
  | [r] => resOne st r fun v => handQ st.H v K
  | rs => resAll st rs fun vs => freezeALQ st.H vs fun vs _ => K (.tup vs)

def initSt (args : List AV) : St := ⟨fun t => (args[t]?).getD .junk, fun _ => (0, none)⟩

/-- A code's run ends, and ends so. A structure, that nothing unfolds it. -/
structure Run (F : Nat → List AV → AV → Prop) (c : ACode) (Q : Ex → St → Prop) (st : St) : Prop where
  out : ∃ e st', Big F c st e st' ∧ Q e st'

/-- What a function's body is to come to. -/
def Ends (rs : List ARes) (r : AV) : Ex → St → Prop
  | .exit _, _ => False
  | _, st => resQ st rs (· = r)

section
variable {P : Program} {X : Nat → Prop} {n : Nat} {base : Base} {w0 w : World} {st : St} {a : Act} {β : Nat → Nat → Option Nat}

theorem loadQ_val (hs : Sim X n base w0 st a w β) {t : TypeId} {sz : Option Nat} (ht : aggOf P t sz) {p : AV} {pv : Value} (hp : RepV (cx X st.H w β) p pv) {K : AV → Prop} (h : loadQ st.H sz p fun v _ => K v) :
    ∃ v v' ad, K v ∧ pv = .pointer (some ad) ∧ (loadVar t ad).run P w = .ok v' w ∧ RepV (cx X st.H w β) v v' := by
  unfold loadQ at h
  split at h
  · rename_i s g k
    simp only [RepV] at hp
    obtain ⟨hg, b, hb, hv⟩ := hp
    split at h
    · rename_i g' cs hH
      obtain ⟨rfl, h⟩ := h
      obtain ⟨y, hy, hK⟩ := someQ_elim h
      obtain ⟨b', cur, e, e1, _, h2, h3, h4⟩ := hs.ok.hp s g _ hH
      rw [show β s g = some b from hb] at e1
      injection e1 with e1
      subst e1
      obtain ⟨v, hl, hrv⟩ := load_rep ht hy h4
      rw [Nat.zero_add] at hl
      exact ⟨y, v, _, hK, hv, hl, hrv⟩
    · exact h.elim
  · rename_i s g esz i k
    simp only [RepV] at hp
    obtain ⟨hg, b, hb, hv⟩ := hp
    have go : ∀ {es : List (List AV)} (_hal : AllLen esz es) (_hE : RepE (cx X st.H w β).pers es b 0), (someQ es[i]? fun e => someQ (takeAt sz e k) K) → ∃ v v' ad, K v ∧ pv = .pointer (some ad) ∧ (loadVar t ad).run P w = .ok v' w ∧ RepV (cx X st.H w β) v v' := by
      intro es hal hE h
      obtain ⟨e, he, h⟩ := someQ_elim h
      obtain ⟨y, hy, hK⟩ := someQ_elim h
      have hc := (RepE_iff hal).1 hE i e he
      obtain ⟨v, hl, hrv⟩ := load_rep ht hy hc
      rw [Nat.zero_add] at hl
      exact ⟨y, v, _, hK, hv, hl, RepV.mono (.ofPers _) _ _ hrv⟩
    split at h
    · rename_i g' e' sz' es hH
      obtain ⟨rfl, rfl, h⟩ := h
      have hp := hs.ok.hp s g _ hH
      obtain ⟨hal, hp⟩ := hp
      rw [show β s g = some b from hb] at hp
      obtain ⟨_, cur, _, _, hE⟩ := hp
      exact go hal hE h
    · rename_i g' e' sz' es hH
      obtain ⟨rfl, rfl, h⟩ := h
      have hp := hs.ok.hp s g _ hH
      obtain ⟨hal, hp⟩ := hp
      rw [show β s g = some b from hb] at hp
      obtain ⟨_, _, hE⟩ := hp
      exact go hal hE h
    · exact h.elim
  · rename_i cs
    simp only [RepV] at hp
    obtain ⟨b, off, hv, hb, hm, hc⟩ := hp
    obtain ⟨y, hy, hK⟩ := someQ_elim h
    obtain ⟨v, hl, hrv⟩ := load_rep ht hy hc
    rw [Nat.add_zero] at hl
    exact ⟨y, v, _, hK, hv, hl, RepV.mono (.ofPers _) _ _ hrv⟩
  · exact h.elim

def resSem : ResultVar → Array Value → Sem Value
  | .tmp t, tmps => pure (tmps.getD t undef)
  | .cell a t, tmps => do loadVar t (← asAddr (tmps.getD a undef))

theorem resOne_sound (hs : Sim X n base w0 st a w β) {rv : ResultVar} {r : ARes} (hc : convRes P rv = some r) {K : AV → Prop} (h : resOne st r K) :
    ∃ v v', K v ∧ (resSem rv a.tmps).run P w = .ok v' w ∧ RepV (cx X st.H w β) v v' := by
  cases rv with
  | tmp t =>
    simp only [convRes, Option.some.injEq] at hc
    subst hc
    exact ⟨_, _, h, rfl, hs.tm t⟩
  | cell ad t =>
    simp only [convRes, Option.map_eq_some_iff] at hc
    obtain ⟨sz, hsz, rfl⟩ := hc
    obtain ⟨v, v', addr, hK, hp, hl, hr⟩ := loadQ_val hs (aggSz_spec hsz) (hs.tm ad) h
    refine ⟨v, v', hK, ?_, hr⟩
    simp only [resSem, Sem.run_bind, hp, asAddr, Sem.run_pure, Result.andThen_ok, hl]

theorem resAll_sound (hs : Sim X n base w0 st a w β) : ∀ {rvs : List ResultVar} {rs : List ARes} (_ : rvs.mapM (convRes P) = some rs) {K : List AV → Prop} (_ : resAll st rs K),
    ∃ vs vs', K vs ∧ (rvs.mapM fun rv => resSem rv a.tmps).run P w = .ok vs' w ∧ RepT (cx X st.H w β) vs vs' ∧ vs.length = rs.length
  | [], rs, hc, K, h => by
    simp at hc
    subst hc
    exact ⟨[], [], h, rfl, by simp only [RepT], rfl⟩
  | rv :: rvs, rs, hc, K, h => by
    simp only [List.mapM_cons, Option.bind_eq_bind, Option.pure_def, Option.bind_eq_some_iff, Option.some.injEq] at hc
    obtain ⟨r, hr, rs', hrs, rfl⟩ := hc
    simp only [resAll] at h
    obtain ⟨v, v', h1, h2, h3⟩ := resOne_sound hs hr h
    obtain ⟨vs, vs', hK, h4, h5, h6⟩ := resAll_sound hs hrs h1
    refine ⟨v :: vs, v' :: vs', hK, ?_, ?_, by simp [h6]⟩
    · simp only [List.mapM_cons, Sem.run_bind, h2, Result.andThen_ok, h4, Sem.run_pure]
    · simp only [RepT]
      exact ⟨v', vs', rfl, h3, h5⟩

theorem results_run (fn : Func) (tmps : Array Value) (w : World) {vs : List Value} (h : (fn.results.toList.mapM fun rv => resSem rv tmps).run P w = .ok vs w) :
    (results fn tmps).run P w = .ok (if h : vs.length = 1 then vs[0] else .tuple vs.toArray) w := by
  have e : (fn.results.mapM fun rv => resSem rv tmps).run P w = .ok vs.toArray w := by
    rw [Array.mapM_eq_mapM_toList, Sem.run_map, h]
    rfl
  have e2 : results fn tmps = (do
      let vs ← fn.results.mapM fun rv => resSem rv tmps
      pure (if h : vs.size = 1 then vs[0] else .tuple vs)) := by
    unfold results
    congr 1
    congr 1
    funext rv
    cases rv <;> rfl
  rw [e2, Sem.run_bind, e]
  simp only [Result.andThen_ok, Sem.run_pure]
  by_cases hl : vs.length = 1 <;> simp [hl]

theorem px_of {x : AV} {v : Value} {H : Heap} (hp : PersA x = true) (h : RepV (cx X H w β) x v) : RepV (px X w) x v := by
  have h1 : RepV (cx X H w β).pers x v := PersA.pers (c := cx X H w β) (c' := (cx X H w β).pers) hp rfl h
  exact RepV.mono (c := (cx X H w β).pers) (c' := px X w) ⟨Nat.le_refl _, fun b _ hm => ⟨rfl, fun hx => hm (show (cx X H w β).M b from Or.inl hx)⟩, fun b cur e h => ⟨cur, h, rfl⟩, fun _ _ _ => rfl, fun _ => Nat.zero_le _⟩ _ _ h1

theorem pxT_of {H : Heap} : ∀ {xs : List AV} {vs : List Value} (_ : xs.all PersA = true) (_ : RepT (cx X H w β) xs vs), RepT (px X w) xs vs
  | [], vs, _, h => by simp only [RepT] at h ⊢; exact h
  | x :: xs, vs, hp, h => by
    simp only [List.all_cons, Bool.and_eq_true] at hp
    simp only [RepT] at h ⊢
    obtain ⟨v, vs', e, h1, h2⟩ := h
    exact ⟨v, vs', e, px_of hp.1 h1, pxT_of hp.2 h2⟩

theorem PersA_ne {x : AV} (hp : PersA x = true) : ∀ e sz es, x ≠ .own e sz es := by
  rintro e sz es rfl
  simp [PersA, Pers] at hp

theorem RepRes_of {r : AV} {v : Value} {own : Nat → Prop} (hne : ∀ e sz es, r ≠ .own e sz es) (h : RepV (px X w) r v) : RepRes X own w r v := by
  cases r <;> first | exact h | exact absurd rfl (hne _ _ _)

theorem handQ_sound (hs : Sim X n base w0 st a w β) {x r : AV} {v : Value} (hx : RepV (cx X st.H w β) x v) (h : handQ st.H x (· = r)) : RepRes X base.B w r v := by
  have frz : freezeAQ st.H x (fun y _ => y = r) → RepRes X base.B w r v := by
    intro h
    obtain ⟨y, us, rfl, _, _, _, hr, hp⟩ := freezeA_sound hs.ok (FrzOf.refl _) hx h
    exact RepRes_of (PersA_ne hp) (px_of hp hr)
  unfold handQ at h
  split at h
  · rename_i s g sz m
    split at h
    · rename_i g' e sz' es hH
      obtain ⟨rfl, rfl, rfl, rfl⟩ := h
      have hb := hs.ok.hp s g _ hH
      obtain ⟨hal, hb⟩ := hb
      simp only [RepV] at hx
      obtain ⟨hg, hx⟩ := hx
      refine ⟨hal, ?_⟩
      rcases hx with ⟨_, h2, h3⟩ | ⟨b, cap, cur, e0, hβ, hv, hn, hm, hcur, hcs⟩
      · exact .inl ⟨h2, List.eq_nil_of_length_eq_zero h3⟩
      · rw [show β s g = some b from hβ] at hb
        obtain ⟨hbase, cur', hcur', _, hE⟩ := hb
        have hcc : some (Obj.cells cur e0) = some (Obj.cells cur' e) := by
          have h1 : w.heap[b]? = some (.cells cur e0 (0, 0)) := hcur
          have h2 : w.heap[b]? = some (.cells cur' e (0, 0)) := hcur'
          rw [← h1, ← h2]
        injection hcc with hcc
        injection hcc with e1 e2
        subst e1 e2
        refine .inr ⟨b, cap, cur, hv, hn, hm, hbase, hcur, hcs, ?_⟩
        refine RepE.mono (c := (cx X st.H w β).pers) (c' := px (fun x => X x ∨ x = b) w) ⟨Nat.le_refl _, fun i _ hm => ⟨rfl, ?_⟩, fun i cur e h => ⟨cur, h, rfl⟩, fun _ _ _ => rfl, fun _ => Nat.le_refl _⟩ es b 0 rfl hE
        rintro (hx | rfl)
        · exact hm (.inl hx)
        · exact hm (.inr ⟨s, g, _, hH, trivial, hβ⟩)
    · rename_i g' e sz' es hH
      obtain ⟨rfl, rfl, hn, rfl⟩ := h
      exact frz (by simp [freezeAQ, freezeQ, hH, hn])
    · exact h.elim
  · exact frz h

/-- A FUNCTION: its body comes to its answer. -/
theorem FnN.intro {f : FuncId} {fn : Func} {code : Code} {ac : ACode} {rs : List ARes} {args : List AV} {r : AV} (hm : P.follows .mixedOrders = true) (hf : P.funcs[f]? = some fn) (hb : fn.body = some code) (hn : (fn.name == "runtime.NumGoroutine") = false)
    (hc : convC P fn.ntmps code = some ac) (hr : fn.results.toList.mapM (convRes P) = some rs) (hl : args.length ≤ fn.ntmps) (h : Run (Fn P) ac (Ends rs r) (initSt args)) : FnN P f args r := by
  refine ⟨⟨fn, hf, hn, by rw [hb]; rfl⟩, fun M w vs hM hargs => ?_⟩
  obtain ⟨e, st', hbig, hend⟩ := h
  have hvl := (RepT_iff.1 hargs).1
  refine calls_of_wp hf hb (wp_mono ((big_sound (X := M) (n := fn.ntmps) (base := ⟨(w.heap.size ≤ ·), fun _ _ _ => False, 0⟩) (w0 := w) hm hbig).1 code hc _ _ (fun _ _ => none) ?_) ?_)
  · refine ⟨rfl, by simp; omega, ⟨BelowB.refl _ _, fun b hb => Nat.not_le.2 (hM b hb), fun _ h => h, fun s g blk h => (by cases h), fun s s' g g' b1 b2 b h => (by cases h), fun _ _ _ h => h.elim⟩, fun t => ?_⟩
    simp only [initSt]
    cases ht : args[t]? with
    | none => simp only [Option.getD_none, RepV]
    | some x =>
      simp only [Option.getD_some]
      obtain ⟨v, hv, hx⟩ := (RepT_iff.1 hargs).2 t x ht
      have hget : (vs.toArray ++ Array.replicate (fn.ntmps - vs.toArray.size) undef).getD t undef = v := by
        have hlt : t < vs.length := (List.getElem?_eq_some_iff.1 hv).1
        rw [Array.getD_eq_getD_getElem?, Array.getElem?_append_left (by simpa using hlt)]
        simp [hv]
      rw [hget]
      refine RepV.mono (c := px M w) (c' := cx M (fun _ => (0, none)) w fun _ _ => none) ⟨Nat.le_refl _, fun b _ hm => ⟨rfl, ?_⟩, fun b cur e h => ⟨cur, h, rfl⟩, fun _ _ _ => rfl, fun _ => Nat.le_refl _⟩ _ _ hx
      rintro (h | ⟨s, g, blk, h, _⟩)
      · exact hm h
      · cases h
  · rintro x a' w' ⟨rfl, β', hs⟩
    have done : resQ st' rs (· = r) → bodyPost P fn (fun e w'' => ∃ v, e = .returned v ∧ Below w.heap.size w w'' ∧ RepRes M (w.heap.size ≤ ·) w'' r v) .normal a' w' := by
      clear hend
      intro hend
      refine ⟨hs.defers, ?_⟩
      unfold resQ at hend
      split at hend
      · rename_i _ r0
        have hone : ∃ rv, fn.results.toList = [rv] ∧ convRes P rv = some r0 := by
          cases hrl : fn.results.toList with
          | nil => rw [hrl] at hr; simp at hr
          | cons rv rest =>
            rw [hrl] at hr
            simp only [List.mapM_cons, Option.bind_eq_bind, Option.pure_def, Option.bind_eq_some_iff, Option.some.injEq] at hr
            obtain ⟨r1, h1, rs', h2, h3⟩ := hr
            injection h3 with h3 h4
            subst h3 h4
            cases rest with
            | nil => exact ⟨rv, rfl, h1⟩
            | cons _ _ =>
              have := (mapM_get h2).1
              simp at this
        obtain ⟨rv, hrl, hcr⟩ := hone
        obtain ⟨v, v', hK, hrun, hrep⟩ := resOne_sound hs hcr hend
        refine ⟨v', ?_, v', rfl, hs.ok.below.toBelow, handQ_sound hs hrep hK⟩
        have := results_run (P := P) fn a'.tmps w' (vs := [v']) (by rw [hrl]; simp only [List.mapM_cons, List.mapM_nil, Sem.run_bind, hrun, Result.andThen_ok, Sem.run_pure])
        simpa using this
      · rename_i hne
        obtain ⟨vs1, vs', hK, hrun, hrep, h4⟩ := resAll_sound hs hr hend
        obtain ⟨ys, us, hy, _, _, _, hr2, hp, _⟩ := freezeAL_sound hs.ok (FrzOf.refl _) vs1 vs' hrep hK
        have hl1 : vs'.length ≠ 1 := by
          intro h1
          have h2 := (mapM_get hr).1
          have h3 : vs'.length = vs1.length := (RepT_iff.1 hrep).1
          have h5 : rs.length = 1 := by omega
          obtain ⟨r0, h6⟩ := List.length_eq_one_iff.1 h5
          exact hne r0 h6
        refine ⟨.tuple vs'.toArray, ?_, .tuple vs'.toArray, rfl, hs.ok.below.toBelow, ?_⟩
        · have := results_run (P := P) fn a'.tmps w' hrun
          rw [dif_neg hl1] at this
          exact this
        · subst hy
          refine RepRes_of (by intro _ _ _ h; cases h) ?_
          simp only [RepV]
          exact ⟨vs', rfl, pxT_of hp hr2⟩
    cases e with
    | exit id => exact hend.elim
    | normal => exact done hend
    | ret => exact done hend

end
end Go.Ev
