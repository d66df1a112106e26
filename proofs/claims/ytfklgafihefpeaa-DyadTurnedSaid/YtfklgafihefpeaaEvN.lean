/- An abstract evaluator, part 23: the reckoned run of closed code and calls. -/
import Derived.Test.YtfklgafihefpeaaEvM
set_option linter.unusedVariables false
set_option linter.unusedSimpArgs false
namespace Go.Ev
open Go.RowKit

def opC (G : Nat → List AV → Option AV) (o : AO) (st : St) : Option St :=
  match o.guard with
  | none => match stepC G o.head (o.args.map st.ev) st.H (o.dst.getD 0) with
    | some (v, us) => some (st.app o.dst v us)
    | none => none
  | some (t, want) => match st.env t with
    | .bool b => if b = want then match stepC G o.head (o.args.map st.ev) st.H (o.dst.getD 0) with
        | some (v, us) => some (st.app o.dst v us)
        | none => none
      else some (st.app o.dst .undef [])
    | .undef => some (st.app o.dst .undef [])
    | _ => none

theorem opC_sound {F : Nat → List AV → AV → Prop} {G : Nat → List AV → Option AV} (hG : ∀ f xs r, G f xs = some r → F f xs r) {o : AO} {st st' : St} (hc : opC G o st = some st') {K : St → Prop} (hk : K st') : stepG F o st K := by
  unfold opC at hc
  split at hc
  · rename_i hg
    simp only [stepG, hg]
    split at hc
    · rename_i h1
      injection hc with hc
      subst hc
      exact stepC_sound hG h1 hk
    · cases hc
  · rename_i t want hg
    simp only [stepG, hg]
    split at hc
    · rename_i b hb
      simp only [hb]
      split at hc
      · rename_i hbw
        rw [if_pos hbw]
        split at hc
        · rename_i h1
          injection hc with hc
          subst hc
          exact stepC_sound hG h1 hk
        · cases hc
      · rename_i hbw
        rw [if_neg hbw]
        injection hc with hc
        subst hc
        exact hk
    · rename_i hb
      simp only [hb]
      injection hc with hc
      subst hc
      exact hk
    · cases hc

def opsC (G : Nat → List AV → Option AV) : List AO → St → Option St
  | [], st => some st
  | o :: os, st => match opC G o st with
    | some st' => opsC G os st'
    | none => none

theorem opsC_sound {F : Nat → List AV → AV → Prop} {G : Nat → List AV → Option AV} (hG : ∀ f xs r, G f xs = some r → F f xs r) : ∀ {os : List AO} {st st' : St} (_ : opsC G os st = some st'), RunOps F os (· = st') st
  | [], st, st', hc => by
    simp only [opsC, Option.some.injEq] at hc
    exact hc
  | o :: os, st, st', hc => by
    simp only [opsC] at hc
    split at hc
    · rename_i h1
      simp only [RunOps]
      exact opC_sound hG h1 (opsC_sound hG hc)
    · cases hc

def drawC (G : Nat → List AV → Option AV) (bef : List Nat) : List AO → Nat → List (Nat × List (Nat × Bool)) → St → Option St
  | [], _, _, st => some st
  | o :: os, i, log, st => if logOk (bef.getD i 0) (footG o st) log = true then match opC G o st with
      | some st' => drawC G bef os (i + 1) (addLog i (footG o st) log) st'
      | none => none
    else none

theorem drawC_sound {F : Nat → List AV → AV → Prop} {G : Nat → List AV → Option AV} (hG : ∀ f xs r, G f xs = some r → F f xs r) {bef : List Nat} : ∀ {os : List AO} {i : Nat} {log : List (Nat × List (Nat × Bool))} {st st' : St} (_ : drawC G bef os i log st = some st'), RunD F bef os i log (· = st') st
  | [], _, _, st, st', hc => by
    simp only [drawC, Option.some.injEq] at hc
    exact hc
  | o :: os, i, log, st, st', hc => by
    simp only [drawC] at hc
    split at hc
    · rename_i h0
      split at hc
      · rename_i h1
        simp only [RunD]
        exact ⟨h0, opC_sound hG h1 (drawC_sound hG hc)⟩
      · cases hc
    · cases hc

def runC (G : Nat → List AV → Option AV) : Nat → ACode → St → Option (Ex × St)
  | 0, _, _ => none
  | n + 1, c, st => match c with
    | .skip => some (.normal, st)
    | .region ops => match opsC G ops st with | some st' => some (.normal, st') | none => none
    | .draw ops bef => match drawC G bef ops 0 [] st with | some st' => some (.normal, st') | none => none
    | .seq a b => match runC G n a st with
      | some (.normal, st1) => runC G n b st1
      | r => r
    | .cond c a b => match st.ev c with
      | .bool t => runC G n (if t then a else b) st
      | _ => none
    | .block id a => match runC G n a st with
      | some (.exit i, st1) => if i = id then some (.normal, st1) else some (.exit i, st1)
      | r => r
    | .loop a => match runC G n a st with
      | some (.normal, st1) => runC G n (.loop a) st1
      | r => r
    | .exit id => some (.exit id, st)
    | .ret => some (.ret, st)

theorem runC_sound {F : Nat → List AV → AV → Prop} {G : Nat → List AV → Option AV} (hG : ∀ f xs r, G f xs = some r → F f xs r) : ∀ {n : Nat} {c : ACode} {st : St} {e : Ex} {st' : St} (_ : runC G n c st = some (e, st')), Big F c st e st'
  | 0, _, _, _, _, hc => by simp [runC] at hc
  | n + 1, c, st, e, st', hc => by
    cases c with
    | skip =>
      simp only [runC, Option.some.injEq, Prod.mk.injEq] at hc
      obtain ⟨rfl, rfl⟩ := hc
      exact .skip
    | region ops =>
      simp only [runC] at hc
      split at hc
      · rename_i h1
        simp only [Option.some.injEq, Prod.mk.injEq] at hc
        obtain ⟨rfl, rfl⟩ := hc
        exact .region (opsC_sound hG h1)
      · cases hc
    | draw ops bef =>
      simp only [runC] at hc
      split at hc
      · rename_i h1
        simp only [Option.some.injEq, Prod.mk.injEq] at hc
        obtain ⟨rfl, rfl⟩ := hc
        exact .draw (drawC_sound hG h1)
      · cases hc
    | seq a b =>
      simp only [runC] at hc
      split at hc
      · rename_i h1
        exact .seqN (runC_sound hG h1) (runC_sound hG hc)
      · rename_i hne
        refine .seqX (runC_sound hG hc) ?_
        rintro rfl
        exact hne _ hc
    | cond x a b =>
      simp only [runC] at hc
      split at hc
      · rename_i h1
        exact .cond h1 (runC_sound hG hc)
      · cases hc
    | block id a =>
      simp only [runC] at hc
      split at hc
      · rename_i i st1 h1
        split at hc
        · rename_i hi
          subst hi
          simp only [Option.some.injEq, Prod.mk.injEq] at hc
          obtain ⟨rfl, rfl⟩ := hc
          exact .blockE (runC_sound hG h1)
        · rename_i hi
          simp only [Option.some.injEq, Prod.mk.injEq] at hc
          obtain ⟨rfl, rfl⟩ := hc
          exact .blockX (runC_sound hG h1) (by simp) (by simpa using hi)
      · rename_i hne
        cases e with
        | normal => exact .blockN (runC_sound hG hc)
        | exit i => exact absurd hc (hne _ _)
        | ret => exact .blockX (runC_sound hG hc) (by simp) (by simp)
    | loop a =>
      simp only [runC] at hc
      split at hc
      · rename_i h1
        exact .loopN (runC_sound hG h1) (runC_sound hG hc)
      · rename_i hne
        refine .loopX (runC_sound hG hc) ?_
        rintro rfl
        exact hne _ hc
    | exit id =>
      simp only [runC, Option.some.injEq, Prod.mk.injEq] at hc
      obtain ⟨rfl, rfl⟩ := hc
      exact .exit
    | ret =>
      simp only [runC, Option.some.injEq, Prod.mk.injEq] at hc
      obtain ⟨rfl, rfl⟩ := hc
      exact .ret

def resOneC (st : St) (r : ARes) : Option AV :=
  match r with
  | .tmp t => some (st.env t)
  | .cell t sz => loadC st.H sz (st.env t)

theorem resOneC_sound {st : St} {r : ARes} {v : AV} (hc : resOneC st r = some v) {K : AV → Prop} (hk : K v) : resOne st r K := by
  cases r with
  | tmp t =>
    simp only [resOneC, Option.some.injEq] at hc
    subst hc
    exact hk
  | cell t sz => exact loadC_sound (K := fun v _ => K v) hc hk

def handC (h : Heap) (v : AV) : Option AV :=
  match v with
  | .view s g sz n => match h s with
    | (g', some (.arr e sz' es)) => if g = g' ∧ sz' = sz ∧ es.length = n then some (.own e sz es) else none
    | (g', some (.frz _ sz' es)) => if g = g' ∧ sz' = sz ∧ es.length = n then some (.sl es) else none
    | _ => none
  | v => match freezeAC h v with
    | some (v', _) => some v'
    | none => none

theorem handC_sound {h : Heap} {v v' : AV} (hc : handC h v = some v') {K : AV → Prop} (hk : K v') : handQ h v K := by
  unfold handC at hc
  split at hc
  · split at hc
    · rename_i hH
      split at hc
      · rename_i hg
        injection hc with hc
        subst hc
        simp only [handQ, hH]
        exact ⟨hg.1, hg.2.1, hg.2.2, hk⟩
      · cases hc
    · rename_i hH
      split at hc
      · rename_i hg
        injection hc with hc
        subst hc
        simp only [handQ, hH]
        exact ⟨hg.1, hg.2.1, hg.2.2, hk⟩
      · cases hc
    · cases hc
  · rename_i hne
    split at hc
    · rename_i h1
      injection hc with hc
      subst hc
      unfold handQ
      split
      · exact absurd rfl (hne _ _ _ _)
      · exact freezeAC_sound (K := fun v _ => K v) h1 hk
    · cases hc

def resAllC (st : St) : List ARes → Option (List AV)
  | [] => some []
  | r :: rs => match resOneC st r with
    | some v => match resAllC st rs with
      | some vs => some (v :: vs)
      | none => none
    | none => none

theorem resAllC_sound {st : St} : ∀ {rs : List ARes} {vs : List AV} (_ : resAllC st rs = some vs) {K : List AV → Prop} (_ : K vs), resAll st rs K
  | [], vs, hc, K, hk => by
    simp only [resAllC, Option.some.injEq] at hc
    subst hc
    exact hk
  | r :: rs, vs, hc, K, hk => by
    simp only [resAllC] at hc
    split at hc
    · rename_i h1
      split at hc
      · rename_i h2
        injection hc with hc
        subst hc
        simp only [resAll]
        exact resOneC_sound h1 (resAllC_sound h2 hk)
      · cases hc
    · cases hc

def resC (st : St) (rs : List ARes) : Option AV :=
  match rs with
  | [r] => match resOneC st r with
    | some v => handC st.H v
    | none => none
  | rs => match resAllC st rs with
    | some vs => match freezeALC st.H vs with
      | some (vs', _) => some (.tup vs')
      | none => none
    | none => none

theorem resC_sound {st : St} {rs : List ARes} {v : AV} (hc : resC st rs = some v) : resQ st rs (· = v) := by
  unfold resC at hc
  split at hc
  · split at hc
    · rename_i h1
      simp only [resQ]
      refine resOneC_sound h1 ?_
      exact handC_sound hc rfl
    · cases hc
  · rename_i hne
    unfold resQ
    split
    · exact absurd rfl (hne _)
    · split at hc
      · rename_i h1
        split at hc
        · rename_i h2
          injection hc with hc
          subst hc
          refine resAllC_sound h1 ?_
          exact freezeALC_sound (K := fun vs _ => AV.tup vs = _) h2 rfl
        · cases hc
      · cases hc

abbrev Tab := List (Nat × Nat × ACode × List ARes)

def callC (G0 : Nat → List AV → Option AV) (tab : Tab) : Nat → Nat → List AV → Option AV
  | 0, _, _ => none
  | n + 1, f, args => match G0 f args with
    | some r => some r
    | none => match tab.lookup f with
      | some (nt, ac, rs) => if args.length ≤ nt ∧ isIO args = false then match runC (callC G0 tab n) n ac (initSt args) with
          | some (.exit _, _) => none
          | some (_, st) => resC st rs
          | none => none
        else none
      | none => none

theorem mem_of_lookup {α : Type} : ∀ {l : List (Nat × α)} {f : Nat} {x : α}, l.lookup f = some x → (f, x) ∈ l
  | [], f, x, h => by simp at h
  | (g, y) :: l, f, x, h => by
    simp only [List.lookup] at h
    split at h
    · rename_i hb
      injection h with h
      subst h
      have : f = g := by simpa using hb
      subst this
      simp
    · exact List.mem_cons_of_mem _ (mem_of_lookup h)

theorem callC_sound {P : Program} (hm : P.follows .mixedOrders = true) {G0 : Nat → List AV → Option AV} (hg : ∀ f args r, G0 f args = some r → Fn P f args r) {tab : Tab} (ht : ∀ p ∈ tab, ∃ fn, P.funcs[p.1]? = some fn ∧ told P fn = some p.2) :
    ∀ n f args r, callC G0 tab n f args = some r → Fn P f args r
  | 0, _, _, _, hc => by simp [callC] at hc
  | n + 1, f, args, r, hc => by
    simp only [callC] at hc
    split at hc
    · rename_i h0
      injection hc with hc
      subst hc
      exact hg _ _ _ h0
    split at hc
    · rename_i nt ac rs hl
      obtain ⟨fn, hf, hk⟩ := ht _ (mem_of_lookup hl)
      split at hc
      · rename_i hle
        refine Fn.of hm hf hk hle.1 ?_ hle.2
        split at hc
        · cases hc
        · rename_i e st hne hr
          refine ⟨e, st, runC_sound (callC_sound hm hg ht n) hr, ?_⟩
          cases e with
          | normal => exact ⟨resC_sound hc⟩
          | ret => exact ⟨resC_sound hc⟩
          | exit i => exact (hne i rfl).elim
        · cases hc
      · cases hc
    · cases hc

end Go.Ev
