/- An abstract evaluator, part 3: owned memory in the model's world: it stands, it is made, written, frozen. -/
import Derived.Test.YtfklgafihefpeaaEv2
set_option linter.unusedVariables false
set_option linter.unusedSimpArgs false
namespace Go.Ev
open Go.RowKit

/-- What a run may change, and which sites' blocks it must keep. -/
structure Base where
  B : Nat → Prop
  keep : Nat → Nat → Nat → Prop
  len : Nat
instance : CoeFun Base fun _ => Nat → Prop := ⟨Base.B⟩

def Blk.live : Blk → Prop
  | .frz .. => False
  | _ => True

def cx (X : Nat → Prop) (H : Heap) (w : World) (β : Nat → Nat → Option Nat) : Cx :=
  ⟨w, fun b => X b ∨ ∃ s g blk, H s = (g, some blk) ∧ blk.live ∧ β s g = some b, β, fun s => (H s).1⟩

def RepB (c : Cx) (base : Base) (ob : Option Nat) : Blk → Prop
  | .box cs => ∃ b cur e, ob = some b ∧ base b ∧ c.w.heap[b]? = some (.cells cur e (0, 0)) ∧ cur.size = cs.length ∧ RepC c cs b 0
  | .arr e sz es => AllLen sz es ∧ match ob with
    | none => es = []
    | some b => base b ∧ ∃ cur, c.w.heap[b]? = some (.cells cur e (0, 0)) ∧ es.length * sz ≤ cur.size ∧ RepE c.pers es b 0
  | .frz _ sz es => AllLen sz es ∧ match ob with
    | none => es = []
    | some b => b < c.w.heap.size ∧ ¬ c.M b ∧ RepE c.pers es b 0

/-- All but certain blocks is as it was. -/
structure BelowB (B : Nat → Prop) (w w' : World) : Prop where
  os : w'.os = w.os
  tape : w'.tape = w.tape
  output : w'.output = w.output
  size : w.heap.size ≤ w'.heap.size
  block : ∀ k, ¬ B k → w'.heap[k]? = w.heap[k]?

theorem BelowB.refl (B : Nat → Prop) (w : World) : BelowB B w w := ⟨rfl, rfl, rfl, Nat.le_refl _, fun _ _ => rfl⟩
theorem BelowB.trans {B : Nat → Prop} {a b c : World} (h : BelowB B a b) (k : BelowB B b c) : BelowB B a c :=
  ⟨k.os.trans h.os, k.tape.trans h.tape, k.output.trans h.output, Nat.le_trans h.size k.size, fun i hi => (k.block i hi).trans (h.block i hi)⟩
theorem BelowB.ofBelow {B : Nat → Prop} {N : Nat} {a b : World} (h : Below N a b) (hB : ∀ k, N ≤ k → B k) : BelowB B a b :=
  ⟨h.os, h.tape, h.output, h.size, fun k hk => h.block k (Nat.lt_of_not_le fun h' => hk (hB k h'))⟩
theorem BelowB.toBelow {N : Nat} {a b : World} (h : BelowB (N ≤ ·) a b) : Below N a b :=
  ⟨h.os, h.tape, h.output, h.size, fun k hk => h.block k (Nat.not_le.2 hk)⟩
theorem BelowB.drew {B : Nat → Prop} {a w : World} (h : BelowB B a w) : BelowB B a w.drew := ⟨h.os, h.tape, h.output, h.size, h.block⟩
theorem BelowB.alloc {B : Nat → Prop} {a w : World} (h : BelowB B a w) (hB : ∀ k, w.heap.size ≤ k → B k) (o : Obj) : BelowB B a (w.alloc o) :=
  h.trans (.ofBelow ((Below.refl _ w).alloc (Nat.le_refl _) o) hB)

theorem BelowB.setRow {B : Nat → Prop} {a w : World} (h : BelowB B a w) {b : Nat} (hb : B b) (cur : Array Value) : BelowB B a (w.setRow b cur) :=
  h.trans ⟨rfl, rfl, rfl, by simp, fun k hk => setRow_other w b k cur (fun h => hk (h ▸ hb))⟩

structure HOK (X : Nat → Prop) (base : Base) (w0 : World) (H : Heap) (w : World) (β : Nat → Nat → Option Nat) : Prop where
  below : BelowB base.B w0 w
  hX : ∀ b, X b → ¬ base b
  hbase : ∀ k, w.heap.size ≤ k → base k
  hp : ∀ s g blk, H s = (g, some blk) → RepB (cx X H w β) base (β s g) blk
  inj : ∀ s s' g g' blk blk' b, H s = (g, some blk) → blk.live → H s' = (g', some blk') → blk'.live → β s g = some b → β s' g' = some b → s = s'
  keep : ∀ s g b, base.keep s g b → 0 < g ∧ g ≤ (H s).1 ∧ β s g = some b ∧ ∃ cur e, w.heap[b]? = some (.cells cur e (0, 0)) ∧ cur.size = base.len

theorem HOK.keep_le {X : Nat → Prop} {base : Base} {w0 w w' : World} {H H' : Heap} {β β' : Nat → Nat → Option Nat} (ok : HOK X base w0 H w β) (hle : (cx X H w β).Le (cx X H' w' β')) :
    ∀ s g b, base.keep s g b → 0 < g ∧ g ≤ (H' s).1 ∧ β' s g = some b ∧ ∃ cur e, w'.heap[b]? = some (.cells cur e (0, 0)) ∧ cur.size = base.len := fun s g b h =>
  let ⟨h1, h2, h3, cur, e, h4, h5⟩ := ok.keep s g b h
  let ⟨cur', h6, h7⟩ := hle.own b cur e h4
  ⟨h1, Nat.le_trans h2 (hle.G s), (hle.β s g ⟨h1, h2⟩).trans h3, cur', e, h6, h7.trans h5⟩

structure Sim (X : Nat → Prop) (n : Nat) (base : Base) (w0 : World) (st : St) (a : Act) (w : World) (β : Nat → Nat → Option Nat) : Prop where
  defers : a.defers = []
  size : a.tmps.size = n
  ok : HOK X base w0 st.H w β
  tm : ∀ t, RepV (cx X st.H w β) (st.env t) (a.tmps.getD t undef)

/-- A block that is not the site's own keeps its description. -/
theorem RepB.mono {c c' : Cx} {base : Base} {ob : Option Nat} {blk : Blk} (h : c.Le c') (hb : ∀ b, ob = some b → blk.live → c'.w.heap[b]? = c.w.heap[b]?) (hr : RepB c base ob blk) : RepB c' base ob blk := by
  cases blk with
  | box cs =>
    obtain ⟨b, cur, e, rfl, h1, h2, h3, h4⟩ := hr
    have := hb b rfl trivial
    exact ⟨b, cur, e, rfl, h1, this.trans h2, h3, RepC.mono h cs b 0 this h4⟩
  | arr e sz es =>
    obtain ⟨hl, hr⟩ := hr
    refine ⟨hl, ?_⟩
    cases ob with
    | none => exact hr
    | some b =>
      obtain ⟨h1, cur, h2, h3, h4⟩ := hr
      have := hb b rfl trivial
      exact ⟨h1, cur, this.trans h2, h3, RepE.mono h.pers es b 0 this h4⟩
  | frz e sz es =>
    obtain ⟨hl, hr⟩ := hr
    refine ⟨hl, ?_⟩
    cases ob with
    | none => exact hr
    | some b =>
      obtain ⟨h1, h2, h3⟩ := hr
      obtain ⟨e2, m2⟩ := h.blk b h1 h2
      exact ⟨Nat.lt_of_lt_of_le h1 h.size, m2, RepE.mono h.pers es b 0 e2 h3⟩

theorem live_lt {X : Nat → Prop} {base : Base} {w0 w : World} {H : Heap} {β : Nat → Nat → Option Nat} (ok : HOK X base w0 H w β) {s g b : Nat} {blk : Blk} (hs : H s = (g, some blk)) (hb : β s g = some b) : b < w.heap.size := by
  have h := ok.hp s g blk hs
  rw [hb] at h
  have lt : ∀ {cur e}, w.heap[b]? = some (.cells cur e (0, 0)) → b < w.heap.size := fun h => by
    rcases Nat.lt_or_ge b w.heap.size with h' | h'
    · exact h'
    · rw [Array.getElem?_eq_none h'] at h; cases h
  cases blk with
  | box cs => obtain ⟨b', cur, e, e1, _, h2, _⟩ := h; injection e1 with e1; subst e1; exact lt h2
  | arr e sz es => obtain ⟨_, _, cur, h2, _⟩ := h; exact lt h2
  | frz e sz es => exact h.2.1

theorem M_lt {X : Nat → Prop} {base : Base} {w0 w : World} {H : Heap} {β : Nat → Nat → Option Nat} (ok : HOK X base w0 H w β) {b : Nat} (h : (cx X H w β).M b) : b < w.heap.size := by
  rcases h with h | ⟨s, g, blk, hs, _, hb⟩
  · exact Nat.lt_of_not_le fun h' => ok.hX b h (ok.hbase b h')
  · exact live_lt ok hs hb

theorem live_base {X : Nat → Prop} {base : Base} {w0 w : World} {H : Heap} {β : Nat → Nat → Option Nat} (ok : HOK X base w0 H w β) {s g b : Nat} {blk : Blk} (hs : H s = (g, some blk)) (hl : blk.live) (hb : β s g = some b) : base b := by
  have h := ok.hp s g blk hs
  rw [hb] at h
  cases blk with
  | box cs => obtain ⟨b', cur, e, e1, h1, _⟩ := h; injection e1 with e1; subst e1; exact h1
  | arr e sz es => exact h.2.1
  | frz e sz es => exact hl.elim

/-! ### the world draws -/
theorem HOK.drew {X : Nat → Prop} {base : Base} {w0 w : World} {H : Heap} {β : Nat → Nat → Option Nat} (ok : HOK X base w0 H w β) : HOK X base w0 H w.drew β ∧ (cx X H w β).Le (cx X H w.drew β) := by
  have hle : (cx X H w β).Le (cx X H w.drew β) := ⟨Nat.le_refl _, fun _ _ h => ⟨rfl, h⟩, fun _ cur _ h => ⟨cur, h, rfl⟩, fun _ _ _ => rfl, fun _ => Nat.le_refl _⟩
  exact ⟨⟨ok.below.drew, ok.hX, ok.hbase, fun s g blk h => RepB.mono hle (fun _ _ _ => rfl) (ok.hp s g blk h), ok.inj, ok.keep_le hle⟩, hle⟩

/-! ### a new block -/
def βnew (β : Nat → Nat → Option Nat) (d g b : Nat) : Nat → Nat → Option Nat := fun s g' => if s = d ∧ g' = g then some b else β s g'

theorem HOK.alloc {X : Nat → Prop} {base : Base} {w0 w : World} {H : Heap} {β : Nat → Nat → Option Nat} (ok : HOK X base w0 H w β) (d : Nat) (cur : Array Value) (e : TypeId) (blk : Blk) (hlive : blk.live)
    (hrep : ∀ c' : Cx, (cx X H w β).Le c' → c'.w = w.alloc (.cells cur e) → RepB c' base (some w.heap.size) blk) :
    HOK X base w0 (upd H d ((H d).1 + 1, some blk)) (w.alloc (.cells cur e)) (βnew β d ((H d).1 + 1) w.heap.size) ∧
    (cx X H w β).Le (cx X (upd H d ((H d).1 + 1, some blk)) (w.alloc (.cells cur e)) (βnew β d ((H d).1 + 1) w.heap.size)) := by
  have hβ : ∀ s g, g ≤ (H s).1 → βnew β d ((H d).1 + 1) w.heap.size s g = β s g := fun s g hg => by
    unfold βnew
    rw [if_neg]
    rintro ⟨rfl, rfl⟩
    omega
  have hβd : βnew β d ((H d).1 + 1) w.heap.size d ((H d).1 + 1) = some w.heap.size := by simp [βnew]
  have hle : (cx X H w β).Le (cx X (upd H d ((H d).1 + 1, some blk)) (w.alloc (.cells cur e)) (βnew β d ((H d).1 + 1) w.heap.size)) := by
    refine ⟨by simp [cx], fun b hb hm => ⟨Below.heap_alloc _ _ _ hb, ?_⟩, fun b cu e' h => ⟨cu, ?_, rfl⟩, fun s g hg => hβ s g hg.2, fun s => ?_⟩
    · rintro (hx | ⟨s, g, bk, hs, hl, hb'⟩)
      · exact hm (.inl hx)
      by_cases hsd : s = d
      · subst hsd
        rw [upd_same] at hs
        injection hs with h1 h2
        subst h1
        rw [hβd] at hb'
        injection hb' with hb'
        subst hb'
        exact absurd hb (Nat.lt_irrefl _)
      · rw [upd_apply, if_neg hsd] at hs
        rw [hβ s g (by rw [hs]; exact Nat.le_refl _)] at hb'
        exact hm (.inr ⟨s, g, bk, hs, hl, hb'⟩)
    · have hlt : b < w.heap.size := by
        rcases Nat.lt_or_ge b w.heap.size with h' | h'
        · exact h'
        · rw [show (cx X H w β).w.heap[b]? = w.heap[b]? from rfl, Array.getElem?_eq_none h'] at h; cases h
      exact (Below.heap_alloc _ _ _ hlt).trans h
    · show (H s).1 ≤ (upd H d _ s).1
      unfold upd
      split
      · rename_i h; subst h; simp
      · exact Nat.le_refl _
  refine ⟨⟨ok.below.alloc ok.hbase _, ok.hX, fun k hk => ok.hbase k (Nat.le_trans (by simp) hk), ?_, ?_, ok.keep_le hle⟩, hle⟩
  · intro s g bk hs
    by_cases hsd : s = d
    · subst hsd
      rw [upd_same] at hs
      injection hs with h1 h2
      injection h2 with h2
      subst h1 h2
      rw [hβd]
      exact hrep _ hle rfl
    · rw [upd_apply, if_neg hsd] at hs
      rw [hβ s g (by rw [hs]; exact Nat.le_refl _)]
      exact RepB.mono hle (fun b hb hl => Below.heap_alloc _ _ _ (live_lt ok hs hb)) (ok.hp s g bk hs)
  · intro s s' g g' b1 b2 b hs hl hs' hl' hb hb'
    by_cases hsd : s = d <;> by_cases hsd' : s' = d
    · rw [hsd, hsd']
    · subst hsd
      rw [upd_same] at hs
      injection hs with h1 h2
      subst h1
      rw [hβd] at hb
      rw [upd_apply, if_neg hsd'] at hs'
      rw [hβ s' g' (by rw [hs']; exact Nat.le_refl _)] at hb'
      injection hb with hb
      subst hb
      exact absurd (live_lt ok hs' hb') (Nat.lt_irrefl _)
    · subst hsd'
      rw [upd_same] at hs'
      injection hs' with h1 h2
      subst h1
      rw [hβd] at hb'
      rw [upd_apply, if_neg hsd] at hs
      rw [hβ s g (by rw [hs]; exact Nat.le_refl _)] at hb
      injection hb' with hb'
      subst hb'
      exact absurd (live_lt ok hs hb) (Nat.lt_irrefl _)
    · rw [upd_apply, if_neg hsd] at hs
      rw [upd_apply, if_neg hsd'] at hs'
      rw [hβ s g (by rw [hs]; exact Nat.le_refl _)] at hb
      rw [hβ s' g' (by rw [hs']; exact Nat.le_refl _)] at hb'
      exact ok.inj s s' g g' b1 b2 b hs hl hs' hl' hb hb'

/-! ### a live block is written -/
theorem HOK.write {X : Nat → Prop} {base : Base} {w0 w : World} {H : Heap} {β : Nat → Nat → Option Nat} (ok : HOK X base w0 H w β) {s g b : Nat} {blk : Blk} (hs : H s = (g, some blk)) (hl : blk.live) (hb : β s g = some b)
    {old cur : Array Value} {e : TypeId} (hold : w.heap[b]? = some (.cells old e (0, 0))) (hsz : cur.size = old.size) (blk' : Blk) (hl' : blk'.live)
    (hrep : ∀ c' : Cx, (cx X H w β).Le c' → c'.w = w.setRow b cur → RepB c' base (some b) blk') :
    HOK X base w0 (upd H s (g, some blk')) (w.setRow b cur) β ∧ (cx X H w β).Le (cx X (upd H s (g, some blk')) (w.setRow b cur) β) := by
  have hM : (cx X H w β).M b := .inr ⟨s, g, blk, hs, hl, hb⟩
  have hMM : ∀ i, (cx X (upd H s (g, some blk')) (w.setRow b cur) β).M i → (cx X H w β).M i := by
    rintro i (hx | ⟨s1, g1, k1, h1, h2, h3⟩)
    · exact .inl hx
    by_cases hss : s1 = s
    · subst hss
      rw [upd_same] at h1
      injection h1 with h4 h5
      subst h4
      exact .inr ⟨s1, g, blk, hs, hl, h3⟩
    · rw [upd_apply, if_neg hss] at h1
      exact .inr ⟨s1, g1, k1, h1, h2, h3⟩
  have hle : (cx X H w β).Le (cx X (upd H s (g, some blk')) (w.setRow b cur) β) := by
    refine ⟨by simp [cx], fun i hi hm => ⟨setRow_other w b i cur (fun h => hm (h ▸ hM)), fun h => hm (hMM i h)⟩, fun i cu e' h => ?_, fun _ _ _ => rfl, fun i => ?_⟩
    · by_cases hib : i = b
      · subst hib
        rw [show (cx X H w β).w.heap[i]? = w.heap[i]? from rfl, hold] at h
        injection h with h
        injection h with h1 h2 h3
        subst h1 h2
        exact ⟨cur, setRow_heap w i old cur e (0, 0) hold, hsz⟩
      · exact ⟨cu, (setRow_other w b i cur hib).trans h, rfl⟩
    · show (H i).1 ≤ (upd H s _ i).1
      unfold upd
      split
      · rename_i h; subst h; rw [hs]; exact Nat.le_refl _
      · exact Nat.le_refl _
  refine ⟨⟨ok.below.setRow (live_base ok hs hl hb) cur, ok.hX, fun k hk => ok.hbase k (by simpa using hk), ?_, ?_, ok.keep_le hle⟩, hle⟩
  · intro s1 g1 k1 h1
    by_cases hss : s1 = s
    · subst hss
      rw [upd_same] at h1
      injection h1 with h4 h5
      injection h5 with h5
      subst h4 h5
      rw [hb]
      exact hrep _ hle rfl
    · rw [upd_apply, if_neg hss] at h1
      refine RepB.mono hle (fun i hi hli => ?_) (ok.hp s1 g1 k1 h1)
      refine setRow_other w b i cur (fun h => hss ?_)
      subst h
      exact ok.inj s1 s g1 g k1 blk i h1 hli hs hl hi hb
  · intro s1 s2 g1 g2 k1 k2 i h1 l1 h2 l2 h3 h4
    have fix : ∀ {s1 g1 k1}, upd H s (g, some blk') s1 = (g1, some k1) → k1.live → ∃ k, H s1 = (g1, some k) ∧ k.live := by
      intro s1 g1 k1 h1 l1
      by_cases hss : s1 = s
      · subst hss
        rw [upd_same] at h1
        injection h1 with h4 h5
        subst h4
        exact ⟨blk, hs, hl⟩
      · rw [upd_apply, if_neg hss] at h1
        exact ⟨k1, h1, l1⟩
    obtain ⟨k1', h1', l1'⟩ := fix h1 l1
    obtain ⟨k2', h2', l2'⟩ := fix h2 l2
    exact ok.inj s1 s2 g1 g2 k1' k2' i h1' l1' h2' l2' h3 h4

/-- Live memory told otherwise. -/
theorem cx_retell {X : Nat → Prop} {H : Heap} {w : World} {β : Nat → Nat → Option Nat} {b g : Nat} {k k' : Blk} (hH : H b = (g, some k)) (hl : k.live) (hl' : k'.live) : cx X (upd H b (g, some k')) w β = cx X H w β := by
  have h1 : (fun s => (upd H b (g, some k') s).1) = fun s => (H s).1 := by
    funext s
    unfold upd
    split
    · rename_i h; subst h; rw [hH]
    · rfl
  have h2 : (fun i => X i ∨ ∃ s g' blk, upd H b (g, some k') s = (g', some blk) ∧ blk.live ∧ β s g' = some i) = fun i => X i ∨ ∃ s g' blk, H s = (g', some blk) ∧ blk.live ∧ β s g' = some i := by
    funext i
    refine propext ⟨?_, ?_⟩
    · rintro (h | ⟨s, g', blk, h3, h4, h5⟩)
      · exact .inl h
      · by_cases hs : s = b
        · subst hs
          rw [upd_same] at h3
          injection h3 with h6 h7
          subst h6
          exact .inr ⟨s, g, k, hH, hl, h5⟩
        · rw [upd_apply, if_neg hs] at h3
          exact .inr ⟨s, g', blk, h3, h4, h5⟩
    · rintro (h | ⟨s, g', blk, h3, h4, h5⟩)
      · exact .inl h
      · by_cases hs : s = b
        · subst hs
          rw [hH] at h3
          injection h3 with h6 h7
          subst h6
          exact .inr ⟨s, g, k', upd_same _ _ _, hl', h5⟩
        · exact .inr ⟨s, g', blk, by rw [upd_apply, if_neg hs]; exact h3, h4, h5⟩
  unfold cx
  rw [h1, h2]

end Go.Ev
