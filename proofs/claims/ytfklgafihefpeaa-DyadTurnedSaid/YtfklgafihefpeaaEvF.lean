/- An abstract evaluator, part 15: a region whose order is drawn. -/
import Derived.Test.YtfklgafihefpeaaEvE
set_option linter.unusedVariables false
set_option linter.unusedSimpArgs false
namespace Go.Ev
open Go.RowKit

def tmpApart (x y : AO) : Bool :=
  (match x.dst with | some d => !(looks y).contains d && y.dst != some d | none => true) && (match y.dst with | some d => !(looks x).contains d | none => true)

def feetApart (f g : List (Nat × Bool)) : Bool := f.all fun p => g.all fun q => !(p.2 || q.2) || p.1 != q.1

def addLog (i : Nat) (f : List (Nat × Bool)) (log : List (Nat × List (Nat × Bool))) : List (Nat × List (Nat × Bool)) :=
  match f with
  | [] => log
  | f => (i, f) :: log

def logOk (b : Nat) (f : List (Nat × Bool)) (log : List (Nat × List (Nat × Bool))) : Bool := log.all fun p => b.testBit p.1 || feetApart p.2 f

/-- The region in its own order, the sites kept in a log: two operations that may come in either order do not touch one site, one of them writing. -/
def RunD (F : Nat → List AV → AV → Prop) (bef : List Nat) : List AO → Nat → List (Nat × List (Nat × Bool)) → (St → Prop) → St → Prop
  | [], _, _, Q, st => Q st
  | o :: os, i, log, Q, st => logOk (bef.getD i 0) (footG o st) log = true ∧ stepG F o st fun st' => RunD F bef os (i + 1) (addLog i (footG o st) log) Q st'

structure It where
  i : Nat
  o : AO
  v : AV
  us : Upds
  f : List (Nat × Bool)

inductive Ch (F : Nat → List AV → AV → Prop) : List It → St → St → Prop where
  | nil (st : St) : Ch F [] st st
  | cons {x : It} {xs : List It} {st st' : St} (h : Step1 F x.o st x.v x.us) (hf : footG x.o st = x.f) (rest : Ch F xs (st.app x.o.dst x.v x.us) st') : Ch F (x :: xs) st st'

def Apart (p x : It) : Prop := tmpApart p.o x.o = true ∧ feetApart p.f x.f = true

theorem updH_other : ∀ (us : Upds) (h : Heap) (s : Nat), (∀ u ∈ us, u.1 ≠ s) → updH h us s = h s
  | [], _, _, _ => rfl
  | (t, g, b) :: us, h, s, hn => by
    simp only [updH]
    rw [updH_other us _ s (fun u hu => hn u (by simp [hu])), upd_apply, if_neg]
    exact fun e => hn (t, g, b) (by simp) e.symm

theorem updH_same : ∀ (us : Upds) (h h' : Heap) (s : Nat), (∃ u ∈ us, u.1 = s) → updH h us s = updH h' us s
  | [], _, _, _, ⟨u, hu, _⟩ => by cases hu
  | (t, g, b) :: us, h, h', s, he => by
    simp only [updH]
    by_cases hin : ∃ u ∈ us, u.1 = s
    · exact updH_same us _ _ s hin
    · have hno : ∀ u ∈ us, u.1 ≠ s := fun u hu e => hin ⟨u, hu, e⟩
      rw [updH_other us _ s hno, updH_other us _ s hno]
      obtain ⟨u, hu, e⟩ := he
      rcases List.mem_cons.1 hu with rfl | hu
      · simp only at e
        subst e
        rw [upd_same, upd_same]
      · exact absurd e (hno u hu)

theorem updH_comm (h : Heap) (us vs : Upds) (hn : ∀ u ∈ us, ∀ v ∈ vs, u.1 ≠ v.1) : updH (updH h us) vs = updH (updH h vs) us := by
  funext s
  by_cases h1 : ∃ u ∈ us, u.1 = s
  · obtain ⟨u, hu, e⟩ := h1
    have h2 : ∀ v ∈ vs, v.1 ≠ s := fun v hv e2 => hn u hu v hv (e.trans e2.symm)
    rw [updH_other vs _ s h2]
    exact updH_same us _ _ s ⟨u, hu, e⟩
  · have h1' : ∀ u ∈ us, u.1 ≠ s := fun u hu e => h1 ⟨u, hu, e⟩
    rw [updH_other us (updH h vs) s h1']
    by_cases h2 : ∃ v ∈ vs, v.1 = s
    · exact updH_same vs _ _ s h2
    · have h2' : ∀ v ∈ vs, v.1 ≠ s := fun v hv e => h2 ⟨v, hv, e⟩
      rw [updH_other vs _ s h2', updH_other us _ s h1', updH_other vs _ s h2']

theorem tmpApart_spec {x y : AO} (h : tmpApart x y = true) : (∀ d, x.dst = some d → d ∉ looks y) ∧ (∀ d, x.dst = some d → y.dst ≠ some d) ∧ (∀ d, y.dst = some d → d ∉ looks x) := by
  unfold tmpApart at h
  simp only [Bool.and_eq_true] at h
  obtain ⟨h1, h2⟩ := h
  refine ⟨fun d hd => ?_, fun d hd => ?_, fun d hd => ?_⟩
  · rw [hd] at h1
    simp only [Bool.and_eq_true, Bool.not_eq_true', bne_iff_ne, ne_eq] at h1
    simpa using h1.1
  · rw [hd] at h1
    simp only [Bool.and_eq_true, Bool.not_eq_true', bne_iff_ne, ne_eq] at h1
    exact h1.2
  · rw [hd] at h2
    simpa using h2

theorem feetApart_spec {f g : List (Nat × Bool)} (h : feetApart f g = true) : (∀ s ∈ wrOf f, s ∉ rdOf g) ∧ (∀ s ∈ wrOf g, s ∉ rdOf f) := by
  unfold feetApart at h
  rw [List.all_eq_true] at h
  have key : ∀ p ∈ f, ∀ q ∈ g, (p.2 = true ∨ q.2 = true) → p.1 ≠ q.1 := by
    intro p hp q hq hw
    have h1 := h p hp
    rw [List.all_eq_true] at h1
    have h2 := h1 q hq
    simp only [Bool.or_eq_true, Bool.not_eq_true', Bool.or_eq_false_iff, bne_iff_ne, ne_eq] at h2
    rcases h2 with h2 | h2
    · rcases hw with hw | hw
      · rw [hw] at h2; cases h2.1
      · rw [hw] at h2; cases h2.2
    · exact h2
  refine ⟨fun s hs hs2 => ?_, fun s hs hs2 => ?_⟩
  · simp only [wrOf, rdOf, List.mem_map, List.mem_filter] at hs hs2
    obtain ⟨p, ⟨hp, hpw⟩, rfl⟩ := hs
    obtain ⟨q, hq, he⟩ := hs2
    exact key p hp q hq (.inl hpw) he.symm
  · simp only [wrOf, rdOf, List.mem_map, List.mem_filter] at hs hs2
    obtain ⟨q, ⟨hq, hqw⟩, rfl⟩ := hs
    obtain ⟨p, hp, he⟩ := hs2
    exact key p hp q hq (.inr hqw) he

theorem wr_rd {f : List (Nat × Bool)} {s : Nat} (h : s ∈ wrOf f) : s ∈ rdOf f := by
  simp only [wrOf, rdOf, List.mem_map, List.mem_filter] at h ⊢
  obtain ⟨p, ⟨hp, _⟩, rfl⟩ := h
  exact ⟨p, hp, rfl⟩

theorem app_env_other {st : St} {d : Option Nat} {v : AV} {us : Upds} {t : Nat} (h : d ≠ some t) : (st.app d v us).env t = st.env t := by
  cases d with
  | none => rfl
  | some d =>
    show upd st.env d v t = _
    rw [upd_apply, if_neg]
    exact fun e => h (by rw [e])

theorem app_comm (st : St) {d1 d2 : Option Nat} {v1 v2 : AV} {us1 us2 : Upds} (hd : ∀ d, d1 = some d → d2 ≠ some d) (hu : ∀ u ∈ us1, ∀ v ∈ us2, u.1 ≠ v.1) :
    (st.app d1 v1 us1).app d2 v2 us2 = (st.app d2 v2 us2).app d1 v1 us1 := by
  unfold St.app
  simp only [St.mk.injEq]
  refine ⟨?_, updH_comm _ _ _ hu⟩
  cases d1 with
  | none => rfl
  | some d1 =>
    cases d2 with
    | none => rfl
    | some d2 =>
      have hne : d1 ≠ d2 := fun e => hd d1 rfl (by rw [e])
      simp only
      funext t
      unfold upd
      by_cases h1 : t = d1 <;> by_cases h2 : t = d2 <;> simp_all

theorem Ch.swap {F : Nat → List AV → AV → Prop} {p x : It} {post : List It} {st st' : St} (ha : Apart p x) (h : Ch F (p :: x :: post) st st') : Ch F (x :: p :: post) st st' := by
  cases h with
  | cons hp hpf rest =>
    cases rest with
    | cons hx hxf rest =>
      obtain ⟨ht1, ht2, ht3⟩ := tmpApart_spec ha.1
      obtain ⟨hf1, hf2⟩ := feetApart_spec ha.2
      have hpw := hp.1
      have hxw := hx.1
      rw [hpf] at hpw
      rw [hxf] at hxw
      -- what x sees does not hang on p
      have sx1 : ∀ t ∈ looks x.o, (st.app p.o.dst p.v p.us).env t = st.env t := fun t ht => app_env_other fun e => ht1 t e ht
      have sx2 : ∀ s ∈ rdOf x.f, (st.app p.o.dst p.v p.us).H s = st.H s := fun s hs => updH_other _ _ _ fun u hu e => hf1 s (e ▸ hpw u hu) hs
      have sp1 : ∀ t ∈ looks p.o, (st.app x.o.dst x.v x.us).env t = st.env t := fun t ht => app_env_other fun e => ht3 t e ht
      have sp2 : ∀ s ∈ rdOf p.f, (st.app x.o.dst x.v x.us).H s = st.H s := fun s hs => updH_other _ _ _ fun u hu e => hf2 s (e ▸ hxw u hu) hs
      have hxf0 : footG x.o st = x.f := by
        have := (hx.2 st (fun t ht => (sx1 t ht).symm) (fun s hs => (sx2 s (hxf ▸ hs)).symm)).1
        rw [this, hxf]
      have hx0 : Step1 F x.o st x.v x.us := by
        refine ⟨by rw [hxf0]; exact hxw, fun st2 e1 e2 => ?_⟩
        rw [hxf0] at e2 ⊢
        have := hx.2 st2 (fun t ht => (e1 t ht).trans (sx1 t ht).symm) (fun s hs => (e2 s (hxf ▸ hs)).trans (sx2 s (hxf ▸ hs)).symm)
        rw [hxf] at this
        exact this
      have hp1 := hp.2 (st.app x.o.dst x.v x.us) sp1 (fun s hs => sp2 s (hpf ▸ hs))
      have hpf1 : footG p.o (st.app x.o.dst x.v x.us) = p.f := hp1.1.trans hpf
      have hp0 : Step1 F p.o (st.app x.o.dst x.v x.us) p.v p.us := by
        refine ⟨by rw [hpf1]; exact hpw, fun st2 e1 e2 => ?_⟩
        rw [hpf1] at e2 ⊢
        have := hp.2 st2 (fun t ht => (e1 t ht).trans (sp1 t ht)) (fun s hs => (e2 s (hpf ▸ hs)).trans (sp2 s (hpf ▸ hs)))
        rw [hpf] at this
        exact this
      have hcomm : (st.app p.o.dst p.v p.us).app x.o.dst x.v x.us = (st.app x.o.dst x.v x.us).app p.o.dst p.v p.us :=
        app_comm st ht2 fun u hu v hv e => hf1 u.1 (hpw u hu) (e ▸ wr_rd (hxw v hv))
      rw [hcomm] at rest
      exact .cons hx0 hxf0 (.cons hp0 hpf1 rest)

theorem Ch.front {F : Nat → List AV → AV → Prop} {x : It} {post : List It} {st' : St} : ∀ (pre : List It) {st : St}, (∀ p ∈ pre, Apart p x) → Ch F (pre ++ x :: post) st st' → Ch F (x :: (pre ++ post)) st st'
  | [], _, _, h => h
  | p :: pre, st, ha, h => by
    rw [List.cons_append] at h
    cases h with
    | cons hp hpf rest =>
      have h1 := Ch.front pre (fun q hq => ha q (by simp [hq])) rest
      exact Ch.swap (ha p (by simp)) (.cons hp hpf h1)

end Go.Ev
