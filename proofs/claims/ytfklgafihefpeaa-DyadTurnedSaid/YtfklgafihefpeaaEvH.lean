/- An abstract evaluator, part 17: code; a whole function; steps that only tell less. -/
import Derived.Test.YtfklgafihefpeaaEvG
set_option linter.unusedVariables false
set_option linter.unusedSimpArgs false
namespace Go.Ev
open Go.RowKit

def convC (P : Program) (n : Nat) : Code → Option ACode
  | .skip => some .skip
  | .region _ ops draw => (ops.toList.mapM (convO P n ops)).bind fun aos =>
    if draw then (guardO (edgesBack ops && befOk ops (Region.before ops).toList && tmpsOk aos (Region.before ops).toList)).map fun _ => .draw aos (Region.before ops).toList
    else some (.region aos)
  | .seq a b => (convC P n a).bind fun x => (convC P n b).map fun y => .seq x y
  | .cond c a b => (convOpd c).bind fun z => (convC P n a).bind fun x => (convC P n b).map fun y => .cond z x y
  | .block id a => (convC P n a).map fun x => .block id x
  | .loop a => (convC P n a).map fun x => .loop x
  | .exit id => some (.exit id)
  | .ret => some .ret
  | _ => none

/-- A state told otherwise: whatever the model's world, where the one holds so does the other. -/
def Ghost (st st' : St) : Prop :=
  ∀ (X : Nat → Prop) (n : Nat) (base : Base) (w0 : World) (a : Act) (w : World) (β : Nat → Nat → Option Nat), Sim X n base w0 st a w β → ∃ β', Sim X n base w0 st' a w β'

inductive Big (F : Nat → List AV → AV → Prop) : ACode → St → Ex → St → Prop where
  | skip {st} : Big F .skip st .normal st
  | region {ops st st'} : RunOps F ops (· = st') st → Big F (.region ops) st .normal st'
  | draw {ops bef st st'} : RunD F bef ops 0 [] (· = st') st → Big F (.draw ops bef) st .normal st'
  | seqN {a b st st1 e st2} : Big F a st .normal st1 → Big F b st1 e st2 → Big F (.seq a b) st e st2
  | seqX {a b st e st1} : Big F a st e st1 → e ≠ .normal → Big F (.seq a b) st e st1
  | cond {c x y st t e st'} : st.ev c = .bool t → Big F (if t then x else y) st e st' → Big F (.cond c x y) st e st'
  | blockN {id a st st'} : Big F a st .normal st' → Big F (.block id a) st .normal st'
  | blockE {id a st st'} : Big F a st (.exit id) st' → Big F (.block id a) st .normal st'
  | blockX {id a st e st'} : Big F a st e st' → e ≠ .normal → e ≠ .exit id → Big F (.block id a) st e st'
  | loopN {a st st1 e st2} : Big F a st .normal st1 → Big F (.loop a) st1 e st2 → Big F (.loop a) st e st2
  | loopX {a st e st1} : Big F a st e st1 → e ≠ .normal → Big F (.loop a) st e st1
  | exit {id st} : Big F (.exit id) st (.exit id) st
  | ret {st} : Big F .ret st .ret st
  | before {a st st1 e st2} : Ghost st st1 → Big F a st1 e st2 → Big F a st e st2
  | behind {a st e st1 st2} : Big F a st e st1 → Ghost st1 st2 → Big F a st e st2

def Ex.to : Ex → Exit
  | .normal => .normal
  | .exit id => .exit id
  | .ret => .ret

def WpIn (P : Program) (c : Code) (Q : Exit → Act → World → Prop) (a : Act) (w : World) : Prop :=
  ∀ (b : Frame) (k : List Item) (cs : List Frame), ∃ e a' w', Q e a' w' ∧ Arrives P (lone (b.at a (.code c :: .inLoop c :: k)) cs w) b k cs e a' w'

section
variable {P : Program} {X : Nat → Prop} {n : Nat} {base : Base} {w0 : World}

theorem WpIn.loop {c : Code} {Q : Exit → Act → World → Prop} {a : Act} {w : World} (h : WpIn P c Q a w) : (Code.loop c).wp P Q a w := fun b k cs => by
  obtain ⟨e, a', w', q, r⟩ := h b k cs
  exact ⟨e, a', w', q, .of_steps (.one step_loop) r⟩

theorem WpIn.next {c : Code} {Q : Exit → Act → World → Prop} {a : Act} {w : World} (h : c.wp P (fun x a' w' => x = .normal ∧ WpIn P c Q a' w') a w) : WpIn P c Q a w := fun b k cs => by
  obtain ⟨e, a1, w1, ⟨rfl, h1⟩, r1⟩ := h b (.inLoop c :: k) cs
  obtain ⟨e2, a2, w2, q2, r2⟩ := h1 b k cs
  exact ⟨e2, a2, w2, q2, .of_steps (Steps.trans r1 (.one step_inLoop)) r2⟩

theorem WpIn.leave {c : Code} {Q : Exit → Act → World → Prop} {a : Act} {w : World} (h : c.wp P (fun x a' w' => x ≠ .normal ∧ Q x a' w') a w) : WpIn P c Q a w := fun b k cs => by
  obtain ⟨e, a1, w1, ⟨hn, q⟩, r1⟩ := h b (.inLoop c :: k) cs
  exact ⟨e, a1, w1, q, .pass rfl (fun _ _ => .inl hn) r1⟩

def After (X : Nat → Prop) (n : Nat) (base : Base) (w0 : World) (e : Ex) (st : St) : Exit → Act → World → Prop := fun x a w => x = e.to ∧ ∃ β, Sim X n base w0 st a w β

theorem big_sound (hm : P.follows .mixedOrders = true) {c : ACode} {st : St} {e : Ex} {st' : St} (h : Big (Fn P) c st e st') :
    (∀ code, convC P n code = some c → ∀ a w β, Sim X n base w0 st a w β → code.wp P (After X n base w0 e st') a w) ∧
    (∀ ac code, c = .loop ac → convC P n code = some ac → ∀ a w β, Sim X n base w0 st a w β → WpIn P code (After X n base w0 e st') a w) := by
  induction h with
  | skip =>
    refine ⟨fun code hc a w β hs => ?_, fun ac code hc => by cases hc⟩
    cases code <;> simp only [convC] at hc <;> try (first | cases hc | (simp only [Option.bind_eq_some_iff, Option.map_eq_some_iff] at hc))
    case skip => exact wp_skip ⟨rfl, β, hs⟩
    case region => obtain ⟨aos, _, hc⟩ := hc; split at hc <;> simp at hc
    case seq => obtain ⟨x, _, y, _, hc⟩ := hc; cases hc
    case cond => obtain ⟨z, _, x, _, y, _, hc⟩ := hc; cases hc
    case block => obtain ⟨x, _, hc⟩ := hc; cases hc
    case loop => obtain ⟨x, _, hc⟩ := hc; cases hc
  | region h =>
    rename_i ops st st'
    refine ⟨fun code hc a w β hs => ?_, fun ac code hc => by cases hc⟩
    cases code <;> simp only [convC] at hc <;> try (first | cases hc | (simp only [Option.bind_eq_some_iff, Option.map_eq_some_iff] at hc))
    case region id rops draw =>
      obtain ⟨aos, haos, hc⟩ := hc
      cases draw
      · simp only [Bool.false_eq_true, if_false] at hc
        injection hc with hc
        injection hc with hc
        subst hc
        refine wp_region ?_
        rw [List.range_eq_range']
        exact ops_sound haos rops.size 0 st a w β (by omega) hs h _ fun a' w' β' hs' => ⟨rfl, β', hs'⟩
      · simp at hc
    case seq => obtain ⟨x, _, y, _, hc⟩ := hc; cases hc
    case cond => obtain ⟨z, _, x, _, y, _, hc⟩ := hc; cases hc
    case block => obtain ⟨x, _, hc⟩ := hc; cases hc
    case loop => obtain ⟨x, _, hc⟩ := hc; cases hc
  | draw h =>
    rename_i ops bef st st'
    refine ⟨fun code hc a w β hs => ?_, fun ac code hc => by cases hc⟩
    cases code <;> simp only [convC] at hc <;> try (first | cases hc | (simp only [Option.bind_eq_some_iff, Option.map_eq_some_iff] at hc))
    case region id rops draw =>
      obtain ⟨aos, haos, hc⟩ := hc
      cases draw
      · simp at hc
      · simp only [if_true, Option.map_eq_some_iff] at hc
        obtain ⟨u, hg, hc⟩ := hc
        injection hc with h1 h2
        subst h1 h2
        have hg := guardO_spec hg
        simp only [Bool.and_eq_true] at hg
        exact draw_sound hm haos hg.1.1 hg.1.2 hg.2 hs h fun a' w' β' hs' => ⟨rfl, β', hs'⟩
    case seq => obtain ⟨x, _, y, _, hc⟩ := hc; cases hc
    case cond => obtain ⟨z, _, x, _, y, _, hc⟩ := hc; cases hc
    case block => obtain ⟨x, _, hc⟩ := hc; cases hc
    case loop => obtain ⟨x, _, hc⟩ := hc; cases hc
  | seqN h1 h2 ih1 ih2 =>
    refine ⟨fun code hc a w β hs => ?_, fun ac code hc => by cases hc⟩
    cases code <;> simp only [convC] at hc <;> try (first | cases hc | (simp only [Option.bind_eq_some_iff, Option.map_eq_some_iff] at hc))
    case region => obtain ⟨aos, _, hc⟩ := hc; split at hc <;> simp at hc
    case seq ca cb =>
      obtain ⟨x, hx, y, hy, hc⟩ := hc
      injection hc with e1 e2
      subst e1 e2
      refine wp_seq (wp_mono (ih1.1 ca hx a w β hs) ?_)
      rintro x' a' w' ⟨rfl, β', hs'⟩
      exact ih2.1 cb hy a' w' β' hs'
    case cond => obtain ⟨z, _, x, _, y, _, hc⟩ := hc; cases hc
    case block => obtain ⟨x, _, hc⟩ := hc; cases hc
    case loop => obtain ⟨x, _, hc⟩ := hc; cases hc
  | seqX h1 hne ih1 =>
    rename_i e _
    refine ⟨fun code hc a w β hs => ?_, fun ac code hc => by cases hc⟩
    cases code <;> simp only [convC] at hc <;> try (first | cases hc | (simp only [Option.bind_eq_some_iff, Option.map_eq_some_iff] at hc))
    case region => obtain ⟨aos, _, hc⟩ := hc; split at hc <;> simp at hc
    case seq ca cb =>
      obtain ⟨x, hx, y, hy, hc⟩ := hc
      injection hc with e1 e2
      subst e1 e2
      refine wp_seq (wp_mono (ih1.1 ca hx a w β hs) ?_)
      rintro x' a' w' ⟨rfl, β', hs'⟩
      cases e
      · exact absurd rfl hne
      · exact ⟨rfl, β', hs'⟩
      · exact ⟨rfl, β', hs'⟩
    case cond => obtain ⟨z, _, x, _, y, _, hc⟩ := hc; cases hc
    case block => obtain ⟨x, _, hc⟩ := hc; cases hc
    case loop => obtain ⟨x, _, hc⟩ := hc; cases hc
  | cond hb h ih =>
    rename_i t _ _
    refine ⟨fun code hc a w β hs => ?_, fun ac code hc => by cases hc⟩
    cases code <;> simp only [convC] at hc <;> try (first | cases hc | (simp only [Option.bind_eq_some_iff, Option.map_eq_some_iff] at hc))
    case region => obtain ⟨aos, _, hc⟩ := hc; split at hc <;> simp at hc
    case seq => obtain ⟨x, _, y, _, hc⟩ := hc; cases hc
    case cond cc ca cb =>
      obtain ⟨z, hz, x, hx, y, hy, hc⟩ := hc
      injection hc with e1 e2 e3
      subst e1 e2 e3
      have hr := opd_rep hs hz
      rw [hb] at hr
      simp only [RepV] at hr
      refine wp_cond hr ?_
      cases t
      · exact ih.1 cb hy a w β hs
      · exact ih.1 ca hx a w β hs
    case block => obtain ⟨x, _, hc⟩ := hc; cases hc
    case loop => obtain ⟨x, _, hc⟩ := hc; cases hc
  | blockN h ih =>
    refine ⟨fun code hc a w β hs => ?_, fun ac code hc => by cases hc⟩
    cases code <;> simp only [convC] at hc <;> try (first | cases hc | (simp only [Option.bind_eq_some_iff, Option.map_eq_some_iff] at hc))
    case region => obtain ⟨aos, _, hc⟩ := hc; split at hc <;> simp at hc
    case seq => obtain ⟨x, _, y, _, hc⟩ := hc; cases hc
    case cond => obtain ⟨z, _, x, _, y, _, hc⟩ := hc; cases hc
    case block id' ca =>
      obtain ⟨x, hx, hc⟩ := hc
      injection hc with e1 e2
      subst e1 e2
      refine wp_block (wp_mono (ih.1 ca hx a w β hs) ?_)
      rintro x' a' w' ⟨rfl, hs'⟩
      exact ⟨rfl, hs'⟩
    case loop => obtain ⟨x, _, hc⟩ := hc; cases hc
  | blockE h ih =>
    refine ⟨fun code hc a w β hs => ?_, fun ac code hc => by cases hc⟩
    cases code <;> simp only [convC] at hc <;> try (first | cases hc | (simp only [Option.bind_eq_some_iff, Option.map_eq_some_iff] at hc))
    case region => obtain ⟨aos, _, hc⟩ := hc; split at hc <;> simp at hc
    case seq => obtain ⟨x, _, y, _, hc⟩ := hc; cases hc
    case cond => obtain ⟨z, _, x, _, y, _, hc⟩ := hc; cases hc
    case block id' ca =>
      obtain ⟨x, hx, hc⟩ := hc
      injection hc with e1 e2
      subst e1 e2
      refine wp_block (wp_mono (ih.1 ca hx a w β hs) ?_)
      rintro x' a' w' ⟨rfl, hs'⟩
      simp only [Ex.to, Exit.inBlock, if_true]
      exact ⟨rfl, hs'⟩
    case loop => obtain ⟨x, _, hc⟩ := hc; cases hc
  | blockX h hne hne2 ih =>
    rename_i id _ _ e _
    refine ⟨fun code hc a w β hs => ?_, fun ac code hc => by cases hc⟩
    cases code <;> simp only [convC] at hc <;> try (first | cases hc | (simp only [Option.bind_eq_some_iff, Option.map_eq_some_iff] at hc))
    case region => obtain ⟨aos, _, hc⟩ := hc; split at hc <;> simp at hc
    case seq => obtain ⟨x, _, y, _, hc⟩ := hc; cases hc
    case cond => obtain ⟨z, _, x, _, y, _, hc⟩ := hc; cases hc
    case block id' ca =>
      obtain ⟨x, hx, hc⟩ := hc
      injection hc with e1 e2
      subst e1 e2
      refine wp_block (wp_mono (ih.1 ca hx a w β hs) ?_)
      rintro x' a' w' ⟨rfl, hs'⟩
      cases e with
      | normal => exact absurd rfl hne
      | exit j =>
        have : j ≠ id' := fun e => hne2 (by rw [e])
        simp only [Ex.to, Exit.inBlock, if_neg this]
        exact ⟨rfl, hs'⟩
      | ret => exact ⟨rfl, hs'⟩
    case loop => obtain ⟨x, _, hc⟩ := hc; cases hc
  | loopN h1 h2 ih1 ih2 =>
    rename_i ac0 s0 s1 e0 s2
    have key : ∀ ac code, ACode.loop ac0 = .loop ac → convC P n code = some ac → ∀ a w β, Sim X n base w0 s0 a w β → WpIn P code (After X n base w0 e0 s2) a w := by
      intro ac code hc hx a w β hs
      injection hc with hc
      subst hc
      refine WpIn.next (wp_mono (ih1.1 code hx a w β hs) ?_)
      rintro x' a' w' ⟨rfl, β', hs'⟩
      exact ⟨rfl, ih2.2 _ code rfl hx a' w' β' hs'⟩
    refine ⟨fun code hc a w β hs => ?_, key⟩
    cases code <;> simp only [convC] at hc <;> try (first | cases hc | (simp only [Option.bind_eq_some_iff, Option.map_eq_some_iff] at hc))
    case region => obtain ⟨aos, _, hc⟩ := hc; split at hc <;> simp at hc
    case seq => obtain ⟨x, _, y, _, hc⟩ := hc; cases hc
    case cond => obtain ⟨z, _, x, _, y, _, hc⟩ := hc; cases hc
    case block => obtain ⟨x, _, hc⟩ := hc; cases hc
    case loop ca =>
      obtain ⟨x, hx, hc⟩ := hc
      exact (key x ca hc.symm hx a w β hs).loop
  | loopX h hne ih =>
    rename_i ac0 s0 e s1
    have key : ∀ ac code, ACode.loop ac0 = .loop ac → convC P n code = some ac → ∀ a w β, Sim X n base w0 s0 a w β → WpIn P code (After X n base w0 e s1) a w := by
      intro ac code hc hx a w β hs
      injection hc with hc
      subst hc
      refine WpIn.leave (wp_mono (ih.1 code hx a w β hs) ?_)
      rintro x' a' w' ⟨rfl, hs'⟩
      refine ⟨?_, rfl, hs'⟩
      cases e
      · exact absurd rfl hne
      · intro h; cases h
      · intro h; cases h
    refine ⟨fun code hc a w β hs => ?_, key⟩
    cases code <;> simp only [convC] at hc <;> try (first | cases hc | (simp only [Option.bind_eq_some_iff, Option.map_eq_some_iff] at hc))
    case region => obtain ⟨aos, _, hc⟩ := hc; split at hc <;> simp at hc
    case seq => obtain ⟨x, _, y, _, hc⟩ := hc; cases hc
    case cond => obtain ⟨z, _, x, _, y, _, hc⟩ := hc; cases hc
    case block => obtain ⟨x, _, hc⟩ := hc; cases hc
    case loop ca =>
      obtain ⟨x, hx, hc⟩ := hc
      exact (key x ca hc.symm hx a w β hs).loop
  | exit =>
    refine ⟨fun code hc a w β hs => ?_, fun ac code hc => by cases hc⟩
    cases code <;> simp only [convC] at hc <;> try (first | cases hc | (simp only [Option.bind_eq_some_iff, Option.map_eq_some_iff] at hc))
    case region => obtain ⟨aos, _, hc⟩ := hc; split at hc <;> simp at hc
    case seq => obtain ⟨x, _, y, _, hc⟩ := hc; cases hc
    case cond => obtain ⟨z, _, x, _, y, _, hc⟩ := hc; cases hc
    case block => obtain ⟨x, _, hc⟩ := hc; cases hc
    case loop => obtain ⟨x, _, hc⟩ := hc; cases hc
    case exit => exact wp_exit ⟨rfl, β, hs⟩
  | ret =>
    refine ⟨fun code hc a w β hs => ?_, fun ac code hc => by cases hc⟩
    cases code <;> simp only [convC] at hc <;> try (first | cases hc | (simp only [Option.bind_eq_some_iff, Option.map_eq_some_iff] at hc))
    case region => obtain ⟨aos, _, hc⟩ := hc; split at hc <;> simp at hc
    case seq => obtain ⟨x, _, y, _, hc⟩ := hc; cases hc
    case cond => obtain ⟨z, _, x, _, y, _, hc⟩ := hc; cases hc
    case block => obtain ⟨x, _, hc⟩ := hc; cases hc
    case loop => obtain ⟨x, _, hc⟩ := hc; cases hc
    case ret => exact wp_ret ⟨rfl, β, hs⟩
  | before hg h ih =>
    refine ⟨fun code hc a w β hs => ?_, fun ac code hc hx a w β hs => ?_⟩
    · obtain ⟨β', hs'⟩ := hg X n base w0 a w β hs
      exact ih.1 code hc a w β' hs'
    · obtain ⟨β', hs'⟩ := hg X n base w0 a w β hs
      exact ih.2 ac code hc hx a w β' hs'
  | behind h hg ih =>
    rename_i ac0 s0 e0 s1 s2
    have tell : ∀ x a' w', After X n base w0 e0 s1 x a' w' → After X n base w0 e0 s2 x a' w' := by
      rintro x a' w' ⟨hx, β', hs'⟩
      exact ⟨hx, hg X n base w0 a' w' β' hs'⟩
    refine ⟨fun code hc a w β hs => wp_mono (ih.1 code hc a w β hs) tell, fun ac code hc hx a w β hs => ?_⟩
    intro b k cs
    obtain ⟨e', a', w', q, r⟩ := ih.2 ac code hc hx a w β hs b k cs
    exact ⟨e', a', w', tell _ _ _ q, r⟩

end
end Go.Ev
