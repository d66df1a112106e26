/- An abstract evaluator, part 3: owned memory in the model's world: it stands, it is made, written, frozen. -/
import Derived.Test.YtfklgafihefpeaaEv2
set_option linter.unusedVariables false
set_option linter.unusedSimpArgs false
namespace Go.Ev
open Go.RowKit

def Blk.live : Blk → Prop
  | .frz .. => False
  | _ => True

def cx (X : Nat → Prop) (H : Heap) (w : World) (β : Nat → Nat → Option Nat) : Cx :=
  ⟨w, fun b => X b ∨ ∃ s g blk, H s = (g, some blk) ∧ blk.live ∧ β s g = some b, β, fun s => (H s).1⟩

def RepB (c : Cx) (base : Nat) (ob : Option Nat) : Blk → Prop
  | .box cs => ∃ b cur e, ob = some b ∧ base ≤ b ∧ c.w.heap[b]? = some (.cells cur e (0, 0)) ∧ cur.size = cs.length ∧ RepC c cs b 0
  | .arr e sz es => AllLen sz es ∧ match ob with
    | none => es = []
    | some b => base ≤ b ∧ ∃ cur, c.w.heap[b]? = some (.cells cur e (0, 0)) ∧ es.length * sz ≤ cur.size ∧ RepE c.pers es b 0
  | .frz _ sz es => AllLen sz es ∧ match ob with
    | none => es = []
    | some b => b < c.w.heap.size ∧ ¬ c.M b ∧ RepE c.pers es b 0

structure HOK (X : Nat → Prop) (base : Nat) (w0 : World) (H : Heap) (w : World) (β : Nat → Nat → Option Nat) : Prop where
  below : Below base w0 w
  hX : ∀ b, X b → b < base
  hbase : base ≤ w.heap.size
  hp : ∀ s g blk, H s = (g, some blk) → RepB (cx X H w β) base (β s g) blk
  inj : ∀ s s' g g' blk blk' b, H s = (g, some blk) → blk.live → H s' = (g', some blk') → blk'.live → β s g = some b → β s' g' = some b → s = s'

structure Sim (X : Nat → Prop) (n base : Nat) (w0 : World) (st : St) (a : Act) (w : World) (β : Nat → Nat → Option Nat) : Prop where
  defers : a.defers = []
  size : a.tmps.size = n
  ok : HOK X base w0 st.H w β
  tm : ∀ t, RepV (cx X st.H w β) (st.env t) (a.tmps.getD t undef)

/-- A block that is not the site's own keeps its description. -/
theorem RepB.mono {c c' : Cx} {base : Nat} {ob : Option Nat} {blk : Blk} (h : c.Le c') (hb : ∀ b, ob = some b → blk.live → c'.w.heap[b]? = c.w.heap[b]?) (hr : RepB c base ob blk) : RepB c' base ob blk := by
  cases blk with
  | box cs =>
    obtain ⟨b, cur, e, rfl, h1, h2, h3, h4⟩ := hr
    have := hb b rfl trivial
    exact ⟨b, cur, e, rfl, h1, this.trans h2, h3, RepC.mono h cs b 0 this h4⟩
  | arr e sz es =>
    obtain ⟨hl, hr⟩ := hr
    refine ⟨hl, ?_⟩
    cases ob with
    | none => exact hr
    | some b =>
      obtain ⟨h1, cur, h2, h3, h4⟩ := hr
      have := hb b rfl trivial
      exact ⟨h1, cur, this.trans h2, h3, RepE.mono h.pers es b 0 this h4⟩
  | frz e sz es =>
    obtain ⟨hl, hr⟩ := hr
    refine ⟨hl, ?_⟩
    cases ob with
    | none => exact hr
    | some b =>
      obtain ⟨h1, h2, h3⟩ := hr
      obtain ⟨e2, m2⟩ := h.blk b h1 h2
      exact ⟨Nat.lt_of_lt_of_le h1 h.size, m2, RepE.mono h.pers es b 0 e2 h3⟩

theorem live_lt {X : Nat → Prop} {base : Nat} {w0 w : World} {H : Heap} {β : Nat → Nat → Option Nat} (ok : HOK X base w0 H w β) {s g b : Nat} {blk : Blk} (hs : H s = (g, some blk)) (hb : β s g = some b) : b < w.heap.size := by
  have h := ok.hp s g blk hs
  rw [hb] at h
  have lt : ∀ {cur e}, w.heap[b]? = some (.cells cur e (0, 0)) → b < w.heap.size := fun h => by
    rcases Nat.lt_or_ge b w.heap.size with h' | h'
    · exact h'
    · rw [Array.getElem?_eq_none h'] at h; cases h
  cases blk with
  | box cs => obtain ⟨b', cur, e, e1, _, h2, _⟩ := h; injection e1 with e1; subst e1; exact lt h2
  | arr e sz es => obtain ⟨_, _, cur, h2, _⟩ := h; exact lt h2
  | frz e sz es => exact h.2.1

theorem M_lt {X : Nat → Prop} {base : Nat} {w0 w : World} {H : Heap} {β : Nat → Nat → Option Nat} (ok : HOK X base w0 H w β) {b : Nat} (h : (cx X H w β).M b) : b < w.heap.size := by
  rcases h with h | ⟨s, g, blk, hs, _, hb⟩
  · exact Nat.lt_of_lt_of_le (ok.hX b h) ok.hbase
  · exact live_lt ok hs hb

theorem live_base {X : Nat → Prop} {base : Nat} {w0 w : World} {H : Heap} {β : Nat → Nat → Option Nat} (ok : HOK X base w0 H w β) {s g b : Nat} {blk : Blk} (hs : H s = (g, some blk)) (hl : blk.live) (hb : β s g = some b) : base ≤ b := by
  have h := ok.hp s g blk hs
  rw [hb] at h
  cases blk with
  | box cs => obtain ⟨b', cur, e, e1, h1, _⟩ := h; injection e1 with e1; subst e1; exact h1
  | arr e sz es => exact h.2.1
  | frz e sz es => exact hl.elim

/-! ### the world draws -/
theorem HOK.drew {X : Nat → Prop} {base : Nat} {w0 w : World} {H : Heap} {β : Nat → Nat → Option Nat} (ok : HOK X base w0 H w β) : HOK X base w0 H w.drew β ∧ (cx X H w β).Le (cx X H w.drew β) := by
  have hle : (cx X H w β).Le (cx X H w.drew β) := ⟨Nat.le_refl _, fun _ _ h => ⟨rfl, h⟩, fun _ cur _ h => ⟨cur, h, rfl⟩, fun _ _ _ => rfl, fun _ => Nat.le_refl _⟩
  exact ⟨⟨ok.below.drew, ok.hX, ok.hbase, fun s g blk h => RepB.mono hle (fun _ _ _ => rfl) (ok.hp s g blk h), ok.inj⟩, hle⟩

/-! ### a new block -/
def βnew (β : Nat → Nat → Option Nat) (d g b : Nat) : Nat → Nat → Option Nat := fun s g' => if s = d ∧ g' = g then some b else β s g'

theorem HOK.alloc {X : Nat → Prop} {base : Nat} {w0 w : World} {H : Heap} {β : Nat → Nat → Option Nat} (ok : HOK X base w0 H w β) (d : Nat) (cur : Array Value) (e : TypeId) (blk : Blk) (hlive : blk.live)
    (hrep : ∀ c' : Cx, (cx X H w β).Le c' → c'.w = w.alloc (.cells cur e) → RepB c' base (some w.heap.size) blk) :
    HOK X base w0 (upd H d ((H d).1 + 1, some blk)) (w.alloc (.cells cur e)) (βnew β d ((H d).1 + 1) w.heap.size) ∧
    (cx X H w β).Le (cx X (upd H d ((H d).1 + 1, some blk)) (w.alloc (.cells cur e)) (βnew β d ((H d).1 + 1) w.heap.size)) := by
  have hβ : ∀ s g, g ≤ (H s).1 → βnew β d ((H d).1 + 1) w.heap.size s g = β s g := fun s g hg => by
    unfold βnew
    rw [if_neg]
    rintro ⟨rfl, rfl⟩
    omega
  have hβd : βnew β d ((H d).1 + 1) w.heap.size d ((H d).1 + 1) = some w.heap.size := by simp [βnew]
  have hle : (cx X H w β).Le (cx X (upd H d ((H d).1 + 1, some blk)) (w.alloc (.cells cur e)) (βnew β d ((H d).1 + 1) w.heap.size)) := by
    refine ⟨by simp [cx], fun b hb hm => ⟨Below.heap_alloc _ _ _ hb, ?_⟩, fun b cu e' h => ⟨cu, ?_, rfl⟩, fun s g hg => hβ s g hg.2, fun s => ?_⟩
    · rintro (hx | ⟨s, g, bk, hs, hl, hb'⟩)
      · exact hm (.inl hx)
      by_cases hsd : s = d
      · subst hsd
        rw [upd_same] at hs
        injection hs with h1 h2
        subst h1
        rw [hβd] at hb'
        injection hb' with hb'
        subst hb'
        exact absurd hb (Nat.lt_irrefl _)
      · rw [upd_apply, if_neg hsd] at hs
        rw [hβ s g (by rw [hs]; exact Nat.le_refl _)] at hb'
        exact hm (.inr ⟨s, g, bk, hs, hl, hb'⟩)
    · have hlt : b < w.heap.size := by
        rcases Nat.lt_or_ge b w.heap.size with h' | h'
        · exact h'
        · rw [show (cx X H w β).w.heap[b]? = w.heap[b]? from rfl, Array.getElem?_eq_none h'] at h; cases h
      exact (Below.heap_alloc _ _ _ hlt).trans h
    · show (H s).1 ≤ (upd H d _ s).1
      unfold upd
      split
      · rename_i h; subst h; simp
      · exact Nat.le_refl _
  refine ⟨⟨ok.below.alloc ok.hbase _, ok.hX, Nat.le_trans ok.hbase (by simp), ?_, ?_⟩, hle⟩
  · intro s g bk hs
    by_cases hsd : s = d
    · subst hsd
      rw [upd_same] at hs
      injection hs with h1 h2
      injection h2 with h2
      subst h1 h2
      rw [hβd]
      exact hrep _ hle rfl
    · rw [upd_apply, if_neg hsd] at hs
      rw [hβ s g (by rw [hs]; exact Nat.le_refl _)]
      exact RepB.mono hle (fun b hb hl => Below.heap_alloc _ _ _ (live_lt ok hs hb)) (ok.hp s g bk hs)
  · intro s s' g g' b1 b2 b hs hl hs' hl' hb hb'
    by_cases hsd : s = d <;> by_cases hsd' : s' = d
    · rw [hsd, hsd']
    · subst hsd
      rw [upd_same] at hs
      injection hs with h1 h2
      subst h1
      rw [hβd] at hb
      rw [upd_apply, if_neg hsd'] at hs'
      rw [hβ s' g' (by rw [hs']; exact Nat.le_refl _)] at hb'
      injection hb with hb
      subst hb
      exact absurd (live_lt ok hs' hb') (Nat.lt_irrefl _)
    · subst hsd'
      rw [upd_same] at hs'
      injection hs' with h1 h2
      subst h1
      rw [hβd] at hb'
      rw [upd_apply, if_neg hsd] at hs
      rw [hβ s g (by rw [hs]; exact Nat.le_refl _)] at hb
      injection hb' with hb'
      subst hb'
      exact absurd (live_lt ok hs hb) (Nat.lt_irrefl _)
    · rw [upd_apply, if_neg hsd] at hs
      rw [upd_apply, if_neg hsd'] at hs'
      rw [hβ s g (by rw [hs]; exact Nat.le_refl _)] at hb
      rw [hβ s' g' (by rw [hs']; exact Nat.le_refl _)] at hb'
      exact ok.inj s s' g g' b1 b2 b hs hl hs' hl' hb hb'

/-! ### a live block is written -/
theorem HOK.write {X : Nat → Prop} {base : Nat} {w0 w : World} {H : Heap} {β : Nat → Nat → Option Nat} (ok : HOK X base w0 H w β) {s g b : Nat} {blk : Blk} (hs : H s = (g, some blk)) (hl : blk.live) (hb : β s g = some b)
    {old cur : Array Value} {e : TypeId} (hold : w.heap[b]? = some (.cells old e (0, 0))) (hsz : cur.size = old.size) (blk' : Blk) (hl' : blk'.live)
    (hrep : ∀ c' : Cx, (cx X H w β).Le c' → c'.w = w.setRow b cur → RepB c' base (some b) blk') :
    HOK X base w0 (upd H s (g, some blk')) (w.setRow b cur) β ∧ (cx X H w β).Le (cx X (upd H s (g, some blk')) (w.setRow b cur) β) := by
  have hM : (cx X H w β).M b := .inr ⟨s, g, blk, hs, hl, hb⟩
  have hMM : ∀ i, (cx X (upd H s (g, some blk')) (w.setRow b cur) β).M i → (cx X H w β).M i := by
    rintro i (hx | ⟨s1, g1, k1, h1, h2, h3⟩)
    · exact .inl hx
    by_cases hss : s1 = s
    · subst hss
      rw [upd_same] at h1
      injection h1 with h4 h5
      subst h4
      exact .inr ⟨s1, g, blk, hs, hl, h3⟩
    · rw [upd_apply, if_neg hss] at h1
      exact .inr ⟨s1, g1, k1, h1, h2, h3⟩
  have hle : (cx X H w β).Le (cx X (upd H s (g, some blk')) (w.setRow b cur) β) := by
    refine ⟨by simp [cx], fun i hi hm => ⟨setRow_other w b i cur (fun h => hm (h ▸ hM)), fun h => hm (hMM i h)⟩, fun i cu e' h => ?_, fun _ _ _ => rfl, fun i => ?_⟩
    · by_cases hib : i = b
      · subst hib
        rw [show (cx X H w β).w.heap[i]? = w.heap[i]? from rfl, hold] at h
        injection h with h
        injection h with h1 h2 h3
        subst h1 h2
        exact ⟨cur, setRow_heap w i old cur e (0, 0) hold, hsz⟩
      · exact ⟨cu, (setRow_other w b i cur hib).trans h, rfl⟩
    · show (H i).1 ≤ (upd H s _ i).1
      unfold upd
      split
      · rename_i h; subst h; rw [hs]; exact Nat.le_refl _
      · exact Nat.le_refl _
  refine ⟨⟨below_setRow ok.below (live_base ok hs hl hb) cur, ok.hX, by simpa using ok.hbase, ?_, ?_⟩, hle⟩
  · intro s1 g1 k1 h1
    by_cases hss : s1 = s
    · subst hss
      rw [upd_same] at h1
      injection h1 with h4 h5
      injection h5 with h5
      subst h4 h5
      rw [hb]
      exact hrep _ hle rfl
    · rw [upd_apply, if_neg hss] at h1
      refine RepB.mono hle (fun i hi hli => ?_) (ok.hp s1 g1 k1 h1)
      refine setRow_other w b i cur (fun h => hss ?_)
      subst h
      exact ok.inj s1 s g1 g k1 blk i h1 hli hs hl hi hb
  · intro s1 s2 g1 g2 k1 k2 i h1 l1 h2 l2 h3 h4
    have fix : ∀ {s1 g1 k1}, upd H s (g, some blk') s1 = (g1, some k1) → k1.live → ∃ k, H s1 = (g1, some k) ∧ k.live := by
      intro s1 g1 k1 h1 l1
      by_cases hss : s1 = s
      · subst hss
        rw [upd_same] at h1
        injection h1 with h4 h5
        subst h4
        exact ⟨blk, hs, hl⟩
      · rw [upd_apply, if_neg hss] at h1
        exact ⟨k1, h1, l1⟩
    obtain ⟨k1', h1', l1'⟩ := fix h1 l1
    obtain ⟨k2', h2', l2'⟩ := fix h2 l2
    exact ok.inj s1 s2 g1 g2 k1' k2' i h1' l1' h2' l2' h3 h4

end Go.Ev
