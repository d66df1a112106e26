/- An abstract evaluator, part 19: the rules of a walk. -/
import Derived.Test.YtfklgafihefpeaaEvI
set_option linter.unusedVariables false
set_option linter.unusedSimpArgs false
namespace Go.Ev
open Go.RowKit

section
variable {F : Nat → List AV → AV → Prop} {Q : Ex → St → Prop} {st : St}

theorem RunD_pick {bef : List Nat} : ∀ {os : List AO} {i : Nat} {log : List (Nat × List (Nat × Bool))} {K : St → Prop} {st : St}, RunD F bef os i log K st → ∃ st', K st' ∧ RunD F bef os i log (· = st') st
  | [], _, _, K, st, h => ⟨st, h, rfl⟩
  | o :: os, i, log, K, st, h => by
    simp only [RunD] at h
    obtain ⟨h0, h⟩ := h
    obtain ⟨v, us, h1, h2⟩ := stepG_picks h
    obtain ⟨st', hK, h3⟩ := RunD_pick h1
    refine ⟨st', hK, ?_⟩
    simp only [RunD]
    exact ⟨h0, (h2.2 st (fun _ _ => rfl) (fun _ _ => rfl)).2 _ h3⟩

theorem Run.mono {c : ACode} {Q' : Ex → St → Prop} (h : Run F c Q st) (hq : ∀ e st', Q e st' → Q' e st') : Run F c Q' st := by
  obtain ⟨e, st', h1, h2⟩ := h
  exact ⟨e, st', h1, hq _ _ h2⟩

theorem Run.skip (h : Q .normal st) : Run F .skip Q st := ⟨_, _, .skip, h⟩

theorem Run.region {ops : List AO} (h : RunOps F ops (Q .normal) st) : Run F (.region ops) Q st := by
  obtain ⟨st', h1, h2⟩ := RunOps_pick h
  exact ⟨_, _, .region h2, h1⟩

theorem Run.draw {ops : List AO} {bef : List Nat} (h : RunD F bef ops 0 [] (Q .normal) st) : Run F (.draw ops bef) Q st := by
  obtain ⟨st', h1, h2⟩ := RunD_pick h
  exact ⟨_, _, .draw h2, h1⟩

def onNormal (Q : Ex → St → Prop) (R : St → Prop) : Ex → St → Prop
  | .normal, st => R st
  | e, st => Q e st

theorem Run.seq {a b : ACode} (h : Run F a (onNormal Q (Run F b Q)) st) : Run F (.seq a b) Q st := by
  obtain ⟨e, st1, h1, h2⟩ := h
  cases e with
  | normal =>
    obtain ⟨e2, st2, h3, h4⟩ := h2
    exact ⟨_, _, .seqN h1 h3, h4⟩
  | exit id => exact ⟨_, _, .seqX h1 (by simp), h2⟩
  | ret => exact ⟨_, _, .seqX h1 (by simp), h2⟩

/-- A sequence whose first part is a region. -/
theorem Run.seqR {ops : List AO} {b : ACode} (h : RunOps F ops (Run F b Q) st) : Run F (.seq (.region ops) b) Q st := Run.seq (Run.region h)
theorem Run.seqD {ops : List AO} {bef : List Nat} {b : ACode} (h : RunD F bef ops 0 [] (Run F b Q) st) : Run F (.seq (.draw ops bef) b) Q st := Run.seq (Run.draw h)

theorem Big.seq_inv {a b c : ACode} {st st' : St} {e : Ex} (h : Big F c st e st') : c = .seq a b → (∃ s1, Big F a st .normal s1 ∧ Big F b s1 e st') ∨ (Big F a st e st' ∧ e ≠ .normal) := by
  induction h with
  | seqN h1 h2 =>
    intro hx
    injection hx with e1 e2
    subst e1 e2
    exact .inl ⟨_, h1, h2⟩
  | seqX h1 h2 =>
    intro hx
    injection hx with e1 e2
    subst e1 e2
    exact .inr ⟨h1, h2⟩
  | before hg _ ih =>
    intro hx
    rcases ih hx with ⟨s1, h1, h2⟩ | ⟨h1, h2⟩
    · exact .inl ⟨s1, .before hg h1, h2⟩
    · exact .inr ⟨.before hg h1, h2⟩
  | behind _ hg ih =>
    intro hx
    rcases ih hx with ⟨s1, h1, h2⟩ | ⟨h1, h2⟩
    · exact .inl ⟨s1, h1, .behind h2 hg⟩
    · exact .inr ⟨.behind h1 hg, h2⟩
  | _ => intro hx; cases hx

theorem Run.assoc {a b c : ACode} (h : Run F (.seq a (.seq b c)) Q st) : Run F (.seq (.seq a b) c) Q st := by
  obtain ⟨e, st', h, hq⟩ := h
  refine ⟨e, st', ?_, hq⟩
  rcases Big.seq_inv h rfl with ⟨s1, h1, h2⟩ | ⟨h1, h2⟩
  · rcases Big.seq_inv h2 rfl with ⟨s2, h3, h4⟩ | ⟨h3, h4⟩
    · exact .seqN (.seqN h1 h3) h4
    · exact .seqX (.seqN h1 h3) h4
  · exact .seqX (.seqX h1 h2) h2

theorem Run.cond {c : Opd} {x y : ACode} {t : Bool} (hc : st.ev c = .bool t) (h : Run F (if t then x else y) Q st) : Run F (.cond c x y) Q st := by
  obtain ⟨e, st', h1, h2⟩ := h
  exact ⟨_, _, .cond hc h1, h2⟩

theorem Run.condB {c : Opd} {x y : ACode} {p : Prop} [Decidable p] (hc : st.ev c = .bool (decide p)) (h1 : p → Run F x Q st) (h2 : ¬ p → Run F y Q st) : Run F (.cond c x y) Q st := by
  refine Run.cond hc ?_
  by_cases hp : p
  · simpa [hp] using h1 hp
  · simpa [hp] using h2 hp

def atBlock (Q : Ex → St → Prop) (id : Nat) : Ex → St → Prop
  | .exit i, st => if i = id then Q .normal st else Q (.exit i) st
  | e, st => Q e st

theorem Run.block {id : Nat} {a : ACode} (h : Run F a (atBlock Q id) st) : Run F (.block id a) Q st := by
  obtain ⟨e, st', h1, h2⟩ := h
  cases e with
  | normal => exact ⟨_, _, .blockN h1, h2⟩
  | exit i =>
    by_cases hi : i = id
    · subst hi
      simp only [atBlock, if_pos] at h2
      exact ⟨_, _, .blockE h1, h2⟩
    · simp only [atBlock, if_neg hi] at h2
      exact ⟨_, _, .blockX h1 (by simp) (by simpa using hi), h2⟩
  | ret => exact ⟨_, _, .blockX h1 (by simp) (by simp), h2⟩

theorem Run.loopUnroll {a : ACode} (h : Run F a (onNormal Q (Run F (.loop a) Q)) st) : Run F (.loop a) Q st := by
  obtain ⟨e, st', h1, h2⟩ := h
  cases e with
  | normal =>
    obtain ⟨e2, st2, h3, h4⟩ := h2
    exact ⟨_, _, .loopN h1 h3, h4⟩
  | exit i => exact ⟨_, _, .loopX h1 (by simp), h2⟩
  | ret => exact ⟨_, _, .loopX h1 (by simp), h2⟩

/-- A loop: an invariant and a measure. -/
theorem Run.loop {a : ACode} (I : Nat → St → Prop) {m : Nat} (h0 : I m st) (hs : ∀ m st, I m st → Run F a (onNormal Q fun st' => ∃ m', m' < m ∧ I m' st') st) : Run F (.loop a) Q st := by
  induction m using Nat.strongRecOn generalizing st with
  | _ m ih =>
    refine Run.loopUnroll ((hs m st h0).mono ?_)
    intro e st' h
    cases e with
    | normal =>
      obtain ⟨m', hlt, hi⟩ := h
      exact ih m' hlt hi
    | exit i => exact h
    | ret => exact h

theorem Run.exit {id : Nat} (h : Q (.exit id) st) : Run F (.exit id) Q st := ⟨_, _, .exit, h⟩
theorem Run.ret (h : Q .ret st) : Run F .ret Q st := ⟨_, _, .ret, h⟩
theorem Run.ghost {c : ACode} {st1 : St} (hg : Ghost st st1) (h : Run F c Q st1) : Run F c Q st := by
  obtain ⟨e, st', h1, h2⟩ := h
  exact ⟨_, _, .before hg h1, h2⟩

end
end Go.Ev
