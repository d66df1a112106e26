/- An abstract evaluator, part 16: a region whose order is drawn, told whole. -/
import Derived.Test.YtfklgafihefpeaaEvF
set_option linter.unusedVariables false
set_option linter.unusedSimpArgs false
namespace Go.Ev
open Go.RowKit

def edgesBack (ops : Array Oper) : Bool := ops.toList.zipIdx.all fun p => p.1.after.all fun e => !Region.binds .any e || decide (e.on < p.2)

def befOk (ops : Array Oper) (bef : List Nat) : Bool :=
  ops.toList.zipIdx.all fun p => (List.range ops.size).all fun q => !(bef.getD p.2 0).testBit q || p.1.after.any fun e => Region.binds .any e && (e.on == q || (bef.getD e.on 0).testBit q)

def tmpsOk (aos : List AO) (bef : List Nat) : Bool :=
  aos.zipIdx.all fun y => (aos.take y.2).zipIdx.all fun x => (bef.getD y.2 0).testBit x.2 || tmpApart x.1 y.1

theorem zipIdx_all {α : Type} {l : List α} {f : α × Nat → Bool} (h : l.zipIdx.all f = true) {i : Nat} {x : α} (hx : l[i]? = some x) : f (x, i) = true := by
  rw [List.all_eq_true] at h
  refine h (x, i) (List.mem_of_getElem? (i := i) ?_)
  rw [List.getElem?_zipIdx, hx]
  simp

theorem edgesBack_spec {ops : Array Oper} (h : edgesBack ops = true) {i : Nat} {o : Oper} (ho : ops[i]? = some o) {e : Edge} (he : e ∈ o.after) (hb : Region.binds .any e = true) : e.on < i := by
  have := zipIdx_all h (i := i) (x := o) (by simpa using ho)
  simp only [Array.all_eq_true_iff_forall_mem] at this
  have := this e he
  rw [hb] at this
  simpa using this

theorem befOk_spec {ops : Array Oper} {bef : List Nat} (h : befOk ops bef = true) {i q : Nat} {o : Oper} (ho : ops[i]? = some o) (hq : q < ops.size) (hb : (bef.getD i 0).testBit q = true) :
    ∃ e ∈ o.after, Region.binds .any e = true ∧ (e.on = q ∨ (bef.getD e.on 0).testBit q = true) := by
  have := zipIdx_all h (i := i) (x := o) (by simpa using ho)
  rw [List.all_eq_true] at this
  have := this q (List.mem_range.2 hq)
  simp only [hb, Bool.not_true, Bool.false_or] at this
  rw [Array.any_eq_true'] at this
  obtain ⟨e, he, h1⟩ := this
  simp only [Bool.and_eq_true, Bool.or_eq_true, beq_iff_eq] at h1
  exact ⟨e, he, h1.1, h1.2⟩

theorem tmpsOk_spec {aos : List AO} {bef : List Nat} (h : tmpsOk aos bef = true) {i j : Nat} {x y : AO} (hij : i < j) (hx : aos[i]? = some x) (hy : aos[j]? = some y) : (bef.getD j 0).testBit i = true ∨ tmpApart x y = true := by
  have h1 := zipIdx_all h (i := j) (x := y) hy
  have h2 := zipIdx_all h1 (i := i) (x := x) (by rw [List.getElem?_take, if_pos hij]; exact hx)
  simpa using h2

/-- What may stand between two of a region's operations. -/
def Cp (bef : List Nat) (p x : It) : Prop := p.i < x.i ∧ ((bef.getD x.i 0).testBit p.i = true ∨ Apart p x)

theorem logOk_addLog {b i : Nat} {f g : List (Nat × Bool)} {log : List (Nat × List (Nat × Bool))} (h : logOk b g (addLog i f log) = true) : logOk b g log = true ∧ (b.testBit i = true ∨ feetApart f g = true) := by
  unfold addLog at h
  split at h
  · exact ⟨h, .inr rfl⟩
  · unfold logOk at h
    rw [List.all_cons, Bool.and_eq_true, Bool.or_eq_true] at h
    exact ⟨h.2, h.1⟩

theorem RunD_items {F : Nat → List AV → AV → Prop} {aos : List AO} {bef : List Nat} (ht : tmpsOk aos bef = true) {Q : St → Prop} : ∀ (os : List AO) (i : Nat) (log : List (Nat × List (Nat × Bool))) (st : St), os = aos.drop i → RunD F bef os i log Q st →
    ∃ L st', Q st' ∧ Ch F L st st' ∧ (∀ x ∈ L, aos[x.i]? = some x.o ∧ i ≤ x.i) ∧ (∀ j, i ≤ j → j < aos.length → ∃ x ∈ L, x.i = j) ∧ L.length = os.length ∧ L.Pairwise (Cp bef) ∧ ∀ x ∈ L, logOk (bef.getD x.i 0) x.f log = true
  | [], i, log, st, ho, h => by
    have hl : aos.length ≤ i := by
      have := congrArg List.length ho
      simp at this
      omega
    exact ⟨[], st, h, .nil st, by simp, fun j h1 h2 => by omega, rfl, .nil, by simp⟩
  | o :: os, i, log, st, ho, h => by
    simp only [RunD] at h
    obtain ⟨hlog, h⟩ := h
    have hlt : i < aos.length := by
      rcases Nat.lt_or_ge i aos.length with h' | h'
      · exact h'
      · rw [List.drop_eq_nil_of_le h'] at ho; cases ho
    rw [List.drop_eq_getElem_cons hlt] at ho
    injection ho with ho1 ho2
    have hoi : aos[i]? = some o := by rw [List.getElem?_eq_getElem hlt, ho1]
    obtain ⟨v, us, h1, h2⟩ := stepG_picks h
    obtain ⟨L, st', hQ, hch, ha, hall, hlen, hpw, hl⟩ := RunD_items ht os (i + 1) _ _ ho2 h1
    refine ⟨⟨i, o, v, us, footG o st⟩ :: L, st', hQ, .cons h2 rfl hch, ?_, ?_, by simp [hlen], ?_, ?_⟩
    · intro x hx
      rcases List.mem_cons.1 hx with rfl | hx
      · exact ⟨hoi, Nat.le_refl _⟩
      · obtain ⟨h3, h4⟩ := ha x hx
        exact ⟨h3, by omega⟩
    · intro j hj hj2
      by_cases hij : j = i
      · subst hij; exact ⟨_, List.mem_cons_self, rfl⟩
      · obtain ⟨x, hx, hxj⟩ := hall j (by omega) hj2
        exact ⟨x, List.mem_cons_of_mem _ hx, hxj⟩
    · refine List.pairwise_cons.2 ⟨fun x hx => ?_, hpw⟩
      obtain ⟨h3, h4⟩ := ha x hx
      refine ⟨by simp only; omega, ?_⟩
      obtain ⟨_, h5⟩ := logOk_addLog (hl x hx)
      rcases h5 with h5 | h5
      · exact .inl h5
      · rcases tmpsOk_spec ht (by omega : i < x.i) hoi h3 with h6 | h6
        · exact .inl h6
        · exact .inr ⟨h6, h5⟩
    · intro x hx
      rcases List.mem_cons.1 hx with rfl | hx
      · exact hlog
      · exact (logOk_addLog (hl x hx)).1

section
variable {P : Program} {X : Nat → Prop} {n : Nat} {base : Base} {w0 : World}

theorem any_sound {ops : Array Oper} {aos : List AO} {bef : List Nat} (hc : ops.toList.mapM (convO P n ops) = some aos) (he : edgesBack ops = true) (hb : befOk ops bef = true) {stF : St} {Q : Exit → Act → World → Prop}
    (hQ : ∀ a' w' β', Sim X n base w0 stF a' w' β' → Q .normal a' w') : ∀ (fuel : Nat) (L : List It) (listed : Array Bool) (st : St) (a : Act) (w : World) (β : Nat → Nat → Option Nat), L.length = fuel → Ch (Fn P) L st stF → Sim X n base w0 st a w β →
      listed.size = ops.size → (∀ x ∈ L, aos[x.i]? = some x.o) → (∀ j, j < ops.size → (listed.getD j true = false ↔ ∃ x ∈ L, x.i = j)) → L.Pairwise (Cp bef) →
      (∀ j o, ops[j]? = some o → listed.getD j false = true → ∀ e ∈ o.after, Region.binds .any e = true → listed.getD e.on false = true) → wpAny P .any ops Q fuel listed a w := by
  have hal : aos.length = ops.size := (mapM_get hc).1.trans Array.length_toList
  intro fuel
  induction fuel with
  | zero =>
    intro L listed st a w β hlen hch hs hsz hao hmem hpw hcl
    have hL : L = [] := List.eq_nil_of_length_eq_zero hlen
    subst hL
    cases hch
    refine ⟨?_, hQ _ _ β hs⟩
    apply List.eq_nil_iff_forall_not_mem.2
    intro j hj
    obtain ⟨h1, o, ho, _⟩ := mem_ready.1 hj
    have hjl : j < ops.size := (Array.getElem?_eq_some_iff.1 ho).1
    obtain ⟨x, hx, _⟩ := (hmem j hjl).1 h1
    cases hx
  | succ fuel ih =>
    intro L listed st a w β hlen hch hs hsz hao hmem hpw hcl
    have tf : ∀ j, j < ops.size → (listed.getD j false = true ↔ ¬ listed.getD j true = false) := by
      intro j hj
      have : j < listed.size := by omega
      simp [this]
    refine ⟨fun hr => ?_, fun i hi => ?_⟩
    · -- something is ready
      exfalso
      cases L with
      | nil => simp at hlen
      | cons x L =>
        have hx := hao x (by simp)
        have hxl : x.i < ops.size := by rw [← hal]; exact (List.getElem?_eq_some_iff.1 hx).1
        have : x.i ∈ Region.ready .any ops listed := by
          refine mem_ready.2 ⟨(hmem x.i hxl).2 ⟨x, by simp, rfl⟩, ops[x.i], by simp [hxl], fun e hea hbi => ?_⟩
          have hlt := edgesBack_spec he (o := ops[x.i]) (i := x.i) (by simp [hxl]) hea hbi
          refine (tf e.on (by omega)).2 fun hf => ?_
          obtain ⟨y, hy, hye⟩ := (hmem e.on (by omega)).1 hf
          rcases List.mem_cons.1 hy with rfl | hy
          · omega
          · have := (List.pairwise_cons.1 hpw).1 y hy
            have := this.1
            omega
        rw [hr] at this
        cases this
    · obtain ⟨h1, o, ho, hall⟩ := mem_ready.1 hi
      have hil : i < ops.size := (Array.getElem?_eq_some_iff.1 ho).1
      obtain ⟨x, hx, hxi⟩ := (hmem i hil).1 h1
      subst hxi
      obtain ⟨pre, post, rfl⟩ := List.append_of_mem hx
      -- whoever must come before has come
      have closed : ∀ (m j : Nat), j < m → ∀ oj, ops[j]? = some oj → (∀ e ∈ oj.after, Region.binds .any e = true → listed.getD e.on false = true) → ∀ q, q < ops.size → (bef.getD j 0).testBit q = true → listed.getD q false = true := by
        intro m
        induction m with
        | zero => intro j hj; omega
        | succ m ihm =>
          intro j hj oj hoj hpre q hq hbit
          obtain ⟨e, hea, hbi, h3⟩ := befOk_spec hb hoj hq hbit
          have hel := hpre e hea hbi
          rcases h3 with h3 | h3
          · rw [← h3]; exact hel
          · have hlt := edgesBack_spec he hoj hea hbi
            have hjs : j < ops.size := (Array.getElem?_eq_some_iff.1 hoj).1
            have hes : e.on < ops.size := by omega
            exact ihm e.on (by omega) ops[e.on] (by simp [hes]) (fun e' he' hb' => hcl e.on ops[e.on] (by simp [hes]) hel e' he' hb') q hq h3
      have hpw2 := List.pairwise_append.1 hpw
      have hap : ∀ p ∈ pre, Apart p x := by
        intro p hp
        obtain ⟨h2, h3⟩ := hpw2.2.2 p hp x (by simp)
        rcases h3 with h3 | h3
        · exfalso
          have hpl : p.i < ops.size := by omega
          have := closed (x.i + 1) x.i (by omega) o ho hall p.i hpl h3
          have h4 := (hmem p.i hpl).2 ⟨p, by simp [hp], rfl⟩
          exact (tf p.i hpl).1 this h4
        · exact h3
      have hfr := Ch.front pre hap hch
      cases hfr with
      | cons hstep hf rest =>
        have hxo := hao x (by simp)
        obtain ⟨ao, hao', hconv⟩ := (mapM_get hc).2 x.i o (by simpa using ho)
        rw [hxo] at hao'
        injection hao' with hao'
        subst hao'
        obtain ⟨st1, e1, hw1⟩ := oper_sound hs hconv hstep.run
        subst e1
        have hnodup : ∀ p ∈ pre ++ post, p.i ≠ x.i := by
          intro p hp e
          rcases List.mem_append.1 hp with hp | hp
          · have := (hpw2.2.2 p hp x (by simp)).1
            omega
          · have := ((List.pairwise_cons.1 hpw2.2.1).1 p hp).1
            omega
        have hget : ∀ (j : Nat) (dv : Bool), j ≠ x.i → (listed.setIfInBounds x.i true).getD j dv = listed.getD j dv := by
          intro j dv hj
          simp [Array.getElem?_setIfInBounds, Ne.symm hj]
        have hgeti : ∀ (dv : Bool), (listed.setIfInBounds x.i true).getD x.i dv = true := by
          intro dv
          have : x.i < listed.size := by omega
          simp [this]
        have key : ∀ a1 w1 β1, Sim X n base w0 (st.app x.o.dst x.v x.us) a1 w1 β1 → wpAny P .any ops Q fuel (listed.setIfInBounds x.i true) a1 w1 := by
          intro a1 w1 β1 hs1
          refine ih (pre ++ post) _ _ a1 w1 β1 (by simp at hlen ⊢; omega) rest hs1 (by simp [hsz]) (fun y hy => hao y ?_) (fun j hj => ?_) ?_ ?_
          · rcases List.mem_append.1 hy with hy | hy
            · exact List.mem_append.2 (.inl hy)
            · exact List.mem_append.2 (.inr (List.mem_cons_of_mem _ hy))
          · by_cases hjx : j = x.i
            · subst hjx
              rw [hgeti]
              exact ⟨fun h => (by cases h), fun ⟨y, hy, hyi⟩ => absurd hyi (hnodup y hy)⟩
            · rw [hget j true hjx, hmem j hj]
              constructor
              · rintro ⟨y, hy, hyi⟩
                refine ⟨y, ?_, hyi⟩
                rcases List.mem_append.1 hy with hy | hy
                · exact List.mem_append.2 (.inl hy)
                · rcases List.mem_cons.1 hy with rfl | hy
                  · exact absurd hyi.symm hjx
                  · exact List.mem_append.2 (.inr hy)
              · rintro ⟨y, hy, hyi⟩
                refine ⟨y, ?_, hyi⟩
                rcases List.mem_append.1 hy with hy | hy
                · exact List.mem_append.2 (.inl hy)
                · exact List.mem_append.2 (.inr (List.mem_cons_of_mem _ hy))
          · exact List.Pairwise.sublist (List.Sublist.append_left (List.sublist_cons_self _ _) _) hpw
          · intro j oj hoj hj e hea hbi
            by_cases hjx : j = x.i
            · subst hjx
              rw [ho] at hoj
              injection hoj with hoj
              subst hoj
              have h5 := hall e hea hbi
              by_cases hex : e.on = x.i
              · rw [hex, hgeti]
              · rw [hget _ _ hex]; exact h5
            · rw [hget j false hjx] at hj
              have h5 := hcl j oj hoj hj e hea hbi
              by_cases hex : e.on = x.i
              · rw [hex, hgeti]
              · rw [hget _ _ hex]; exact h5
        have := hw1 (fun a1 w1 => wpAny P .any ops Q fuel (listed.setIfInBounds x.i true) a1 w1) Q key
        unfold wpOp
        simp only [ho]
        split
        · rename_i hw
          rw [if_pos hw] at this
          exact .inl this
        · rename_i hw
          rw [if_neg hw] at this
          exact this

theorem draw_sound {ops : Array Oper} {aos : List AO} {bef : List Nat} {id : Nat} (hm : P.follows .mixedOrders = true) (hc : ops.toList.mapM (convO P n ops) = some aos) (he : edgesBack ops = true) (hb : befOk ops bef = true) (ht : tmpsOk aos bef = true)
    {st st' : St} {a : Act} {w : World} {β : Nat → Nat → Option Nat} (hs : Sim X n base w0 st a w β) (h : RunD (Fn P) bef aos 0 [] (· = st') st) {Q : Exit → Act → World → Prop} (hQ : ∀ a' w' β', Sim X n base w0 st' a' w' β' → Q .normal a' w') :
    (Code.region id ops true).wp P Q a w := by
  have hal : aos.length = ops.size := (mapM_get hc).1.trans Array.length_toList
  obtain ⟨L, stF, rfl, hch, h1, h2, h3, h4, _⟩ := RunD_items ht aos 0 [] st rfl h
  obtain ⟨okd, led⟩ := hs.ok.drew
  have hs' : Sim X n base w0 st a w.drew β := ⟨hs.defers, hs.size, okd, fun t => RepV.mono led _ _ (hs.tm t)⟩
  refine wp_region_any hm (any_sound hc he hb hQ ops.size L _ st a w.drew β (by omega) hch hs' (by simp) (fun x hx => (h1 x hx).1) (fun j hj => ?_) h4 (fun j o ho hj => ?_))
  · constructor
    · intro _
      exact h2 j (Nat.zero_le _) (by omega)
    · intro _
      simp [hj]
  · have hjl : j < ops.size := (Array.getElem?_eq_some_iff.1 ho).1
    simp [hjl] at hj

end
end Go.Ev
