/- An abstract evaluator, part 2: what of the model's world an abstract value speaks of, and that it stands while other memory is made or written. -/
import Derived.Test.YtfklgafihefpeaaEv1
set_option linter.unusedVariables false
set_option linter.unusedSimpArgs false
namespace Go.Ev

structure Cx where
  w : World
  M : Nat → Prop
  β : Nat → Nat → Option Nat
  G : Nat → Nat

/-- What is persistent speaks of no owned memory. -/
def Cx.pers (c : Cx) : Cx := ⟨c.w, c.M, fun _ _ => none, fun _ => 0⟩

mutual
def RepV : Cx → AV → Value → Prop
  | _, .junk, _ => True
  | _, .undef, v => v = Go.undef
  | _, .int k n, v => v = .int k n
  | _, .bool b, v => v = .bool b
  | _, .str s, v => v = .string s
  | c, .agg cs, v => ∃ vs : List Value, v = .agg vs.toArray ∧ RepL c cs vs
  | c, .tup xs, v => ∃ vs : List Value, v = .tuple vs.toArray ∧ RepT c xs vs
  | c, .sl es, v => (v = .slice none 0 0 ∧ es.length = 0) ∨ ∃ b off cap, v = .slice (some ⟨b, off, none⟩) es.length cap ∧ es.length ≤ cap ∧ b < c.w.heap.size ∧ ¬ c.M b ∧ RepE c.pers es b off
  | _, .nil, v => v = .slice none 0 0
  | c, .ptr s g k, v => (0 < g ∧ g ≤ c.G s) ∧ ∃ b, c.β s g = some b ∧ v = .pointer (some ⟨b, k, none⟩)
  | c, .eptr s g sz i k, v => (0 < g ∧ g ≤ c.G s) ∧ ∃ b, c.β s g = some b ∧ v = .pointer (some ⟨b, i * sz + k, none⟩)
  | c, .view s g sz n, v => (0 < g ∧ g ≤ c.G s) ∧ ((c.β s g = none ∧ v = .slice none 0 0 ∧ n = 0) ∨
      ∃ b cap cur e, c.β s g = some b ∧ v = .slice (some ⟨b, 0, none⟩) n cap ∧ n ≤ cap ∧ cap ≤ maxLen ∧ c.w.heap[b]? = some (.cells cur e (0, 0)) ∧ cur.size = cap * sz)
  | c, .pcell cs, v => ∃ b off, v = .pointer (some ⟨b, off, none⟩) ∧ b < c.w.heap.size ∧ ¬ c.M b ∧ RepC c.pers cs b off
  | _, .fn f, v => v = .func (.func f) #[] #[]
  | _, .own _ _ _, _ => False
  | c, .slN es, v => ∃ b off cap, v = .slice (some ⟨b, off, none⟩) es.length cap ∧ es.length ≤ cap ∧ b < c.w.heap.size ∧ ¬ c.M b ∧ RepE c.pers es b off
  | c, .sub s g sz off n, v => (0 < g ∧ g ≤ c.G s) ∧ ∃ b cap cur e, c.β s g = some b ∧ v = .slice (some ⟨b, off * sz, none⟩) n cap ∧ n ≤ cap ∧ cap ≤ maxLen ∧ c.w.heap[b]? = some (.cells cur e (0, 0))
def RepL : Cx → List AV → List Value → Prop
  | _, [], vs => vs = []
  | c, x :: xs, vs => ∃ v vs', vs = v :: vs' ∧ v.oneCell' = true ∧ RepV c x v ∧ RepL c xs vs'
def RepT : Cx → List AV → List Value → Prop
  | _, [], vs => vs = []
  | c, x :: xs, vs => ∃ v vs', vs = v :: vs' ∧ RepV c x v ∧ RepT c xs vs'
def RepC : Cx → List AV → Nat → Nat → Prop
  | _, [], _, _ => True
  | c, x :: xs, b, off => (∃ v, c.w.cell? ⟨b, off, none⟩ = some v ∧ v.oneCell' = true ∧ RepV c x v) ∧ RepC c xs b (off + 1)
def RepE : Cx → List (List AV) → Nat → Nat → Prop
  | _, [], _, _ => True
  | c, e :: es, b, off => RepC c e b off ∧ RepE c es b (off + e.length)
end

theorem RepV_denil {c : Cx} {x : AV} {v : Value} (h : RepV c x v) : RepV c (denil x) v := by
  cases x <;> first | exact h | (simp only [RepV] at h; simp only [denil, RepV]; exact .inl ⟨h, rfl⟩)
theorem RepL_denil {c : Cx} : ∀ {xs : List AV} {vs : List Value}, RepL c xs vs → RepL c (xs.map denil) vs
  | [], vs => fun h => h
  | x :: xs, vs => fun h => by
    simp only [RepL, List.map_cons] at h ⊢
    obtain ⟨v, vs', e, ho, h1, h2⟩ := h
    exact ⟨v, vs', e, ho, RepV_denil h1, RepL_denil h2⟩

structure Cx.Le (c c' : Cx) : Prop where
  size : c.w.heap.size ≤ c'.w.heap.size
  blk : ∀ b, b < c.w.heap.size → ¬ c.M b → c'.w.heap[b]? = c.w.heap[b]? ∧ ¬ c'.M b
  own : ∀ (b : Nat) cur e, c.w.heap[b]? = some (.cells cur e (0, 0)) → ∃ cur', c'.w.heap[b]? = some (.cells cur' e (0, 0)) ∧ cur'.size = cur.size
  β : ∀ s g, (0 < g ∧ g ≤ c.G s) → c'.β s g = c.β s g
  G : ∀ s, c.G s ≤ c'.G s

theorem Cx.Le.refl (c : Cx) : c.Le c := ⟨Nat.le_refl _, fun _ _ h => ⟨rfl, h⟩, fun _ cur _ h => ⟨cur, h, rfl⟩, fun _ _ _ => rfl, fun _ => Nat.le_refl _⟩

theorem Cx.Le.trans {a b c : Cx} (h : a.Le b) (k : b.Le c) : a.Le c :=
  ⟨Nat.le_trans h.size k.size,
   fun i hi hm => let ⟨e1, m1⟩ := h.blk i hi hm; let ⟨e2, m2⟩ := k.blk i (Nat.lt_of_lt_of_le hi h.size) m1; ⟨e2.trans e1, m2⟩,
   fun i cur e hc => let ⟨cur1, h1, s1⟩ := h.own i cur e hc; let ⟨cur2, h2, s2⟩ := k.own i cur1 e h1; ⟨cur2, h2, s2.trans s1⟩,
   fun s g hg => (k.β s g ⟨hg.1, Nat.le_trans hg.2 (h.G s)⟩).trans (h.β s g hg), fun s => Nat.le_trans (h.G s) (k.G s)⟩

theorem Cx.Le.pers {c c' : Cx} (h : c.Le c') : c.pers.Le c'.pers := ⟨h.size, h.blk, h.own, fun _ _ _ => rfl, fun _ => Nat.le_refl _⟩

mutual
theorem RepV.mono : ∀ {c c' : Cx} (_h : c.Le c') (x : AV) (v : Value), RepV c x v → RepV c' x v
  | _, _, h, .junk, _ => fun _ => by simp [RepV]
  | _, _, h, .undef, v => fun h1 => by simp only [RepV] at h1 ⊢; exact h1
  | _, _, h, .int k n, v => fun h1 => by simp only [RepV] at h1 ⊢; exact h1
  | _, _, h, .bool b, v => fun h1 => by simp only [RepV] at h1 ⊢; exact h1
  | _, _, h, .str s, v => fun h1 => by simp only [RepV] at h1 ⊢; exact h1
  | _, _, h, .nil, v => fun h1 => by simp only [RepV] at h1 ⊢; exact h1
  | _, _, h, .fn f, v => fun h1 => by simp only [RepV] at h1 ⊢; exact h1
  | _, _, h, .own _ _ _, v => fun h1 => by simp only [RepV] at h1
  | _, _, h, .agg cs, v => fun h1 => by
    simp only [RepV] at h1 ⊢
    obtain ⟨vs, e, h2⟩ := h1
    exact ⟨vs, e, RepL.mono h cs vs h2⟩
  | _, _, h, .tup xs, v => fun h1 => by
    simp only [RepV] at h1 ⊢
    obtain ⟨vs, e, h2⟩ := h1
    exact ⟨vs, e, RepT.mono h xs vs h2⟩
  | _, _, h, .sl es, v => fun h1 => by
    simp only [RepV] at h1 ⊢
    rcases h1 with h1 | ⟨b, off, cap, e, hc, hb, hm, h2⟩
    · exact .inl h1
    · obtain ⟨e2, m2⟩ := h.blk b hb hm
      exact .inr ⟨b, off, cap, e, hc, Nat.lt_of_lt_of_le hb h.size, m2, RepE.mono h.pers es b off e2 h2⟩
  | _, _, h, .ptr s g k, v => fun h1 => by
    simp only [RepV] at h1 ⊢
    obtain ⟨hg, b, hb, e⟩ := h1
    exact ⟨⟨hg.1, Nat.le_trans hg.2 (h.G s)⟩, b, (h.β s g hg).trans hb, e⟩
  | _, _, h, .eptr s g sz i k, v => fun h1 => by
    simp only [RepV] at h1 ⊢
    obtain ⟨hg, b, hb, e⟩ := h1
    exact ⟨⟨hg.1, Nat.le_trans hg.2 (h.G s)⟩, b, (h.β s g hg).trans hb, e⟩
  | _, _, h, .view s g sz n, v => fun h1 => by
    simp only [RepV] at h1 ⊢
    obtain ⟨hg, h1⟩ := h1
    refine ⟨⟨hg.1, Nat.le_trans hg.2 (h.G s)⟩, ?_⟩
    rcases h1 with ⟨h1, h2⟩ | ⟨b, cap, cur, e, hb, hv, hn, hm, hc, hs⟩
    · exact .inl ⟨(h.β s g hg).trans h1, h2⟩
    · obtain ⟨cur', hc', hs'⟩ := h.own b cur e hc
      exact .inr ⟨b, cap, cur', e, (h.β s g hg).trans hb, hv, hn, hm, hc', hs'.trans hs⟩
  | _, _, h, .pcell cs, v => fun h1 => by
    simp only [RepV] at h1 ⊢
    obtain ⟨b, off, e, hb, hm, h2⟩ := h1
    obtain ⟨e2, m2⟩ := h.blk b hb hm
    exact ⟨b, off, e, Nat.lt_of_lt_of_le hb h.size, m2, RepC.mono h.pers cs b off e2 h2⟩
  | _, _, h, .slN es, v => fun h1 => by
    simp only [RepV] at h1 ⊢
    obtain ⟨b, off, cap, e, hc, hb, hm, h2⟩ := h1
    obtain ⟨e2, m2⟩ := h.blk b hb hm
    exact ⟨b, off, cap, e, hc, Nat.lt_of_lt_of_le hb h.size, m2, RepE.mono h.pers es b off e2 h2⟩
  | _, _, h, .sub s g sz off n, v => fun h1 => by
    simp only [RepV] at h1 ⊢
    obtain ⟨hg, b, cap, cur, e, hb, hv, hn, hm, hc⟩ := h1
    obtain ⟨cur', hc', _⟩ := h.own b cur e hc
    exact ⟨⟨hg.1, Nat.le_trans hg.2 (h.G s)⟩, b, cap, cur', e, (h.β s g hg).trans hb, hv, hn, hm, hc'⟩
theorem RepL.mono : ∀ {c c' : Cx} (_h : c.Le c') (xs : List AV) (vs : List Value), RepL c xs vs → RepL c' xs vs
  | _, _, h, [], vs => fun h1 => by simp only [RepL] at h1 ⊢; exact h1
  | _, _, h, x :: xs, vs => fun h1 => by
    simp only [RepL] at h1 ⊢
    obtain ⟨v, vs', e, ho, h2, h3⟩ := h1
    exact ⟨v, vs', e, ho, RepV.mono h x v h2, RepL.mono h xs vs' h3⟩
theorem RepT.mono : ∀ {c c' : Cx} (_h : c.Le c') (xs : List AV) (vs : List Value), RepT c xs vs → RepT c' xs vs
  | _, _, h, [], vs => fun h1 => by simp only [RepT] at h1 ⊢; exact h1
  | _, _, h, x :: xs, vs => fun h1 => by
    simp only [RepT] at h1 ⊢
    obtain ⟨v, vs', e, h2, h3⟩ := h1
    exact ⟨v, vs', e, RepV.mono h x v h2, RepT.mono h xs vs' h3⟩
theorem RepC.mono : ∀ {c c' : Cx} (_h : c.Le c') (xs : List AV) (b off : Nat), c'.w.heap[b]? = c.w.heap[b]? → RepC c xs b off → RepC c' xs b off
  | _, _, h, [], _, _ => fun _ _ => by simp [RepC]
  | _, _, h, x :: xs, b, off => fun hb h1 => by
    simp only [RepC] at h1 ⊢
    obtain ⟨⟨v, hv, ho, h2⟩, h3⟩ := h1
    exact ⟨⟨v, (World.cell?_of_block (a := ⟨b, off, none⟩) hb).trans hv, ho, RepV.mono h x v h2⟩, RepC.mono h xs b (off + 1) hb h3⟩
theorem RepE.mono : ∀ {c c' : Cx} (_h : c.Le c') (es : List (List AV)) (b off : Nat), c'.w.heap[b]? = c.w.heap[b]? → RepE c es b off → RepE c' es b off
  | _, _, h, [], _, _ => fun _ _ => by simp [RepE]
  | _, _, h, e :: es, b, off => fun hb h1 => by
    simp only [RepE] at h1 ⊢
    exact ⟨RepC.mono h e b off hb h1.1, RepE.mono h es b _ hb h1.2⟩
end

theorem Cx.Le.ofPers (c : Cx) : c.pers.Le c := ⟨Nat.le_refl _, fun _ _ h => ⟨rfl, h⟩, fun _ cur _ h => ⟨cur, h, rfl⟩, fun _ g hg => absurd hg.1 (by have := hg.2; simp only [Cx.pers] at this; omega), fun _ => Nat.zero_le _⟩

/-! ### by places -/
theorem RepC_iff {c : Cx} : ∀ {xs : List AV} {b off : Nat}, RepC c xs b off ↔ ∀ j x, xs[j]? = some x → ∃ v, c.w.cell? ⟨b, off + j, none⟩ = some v ∧ v.oneCell' = true ∧ RepV c x v
  | [], b, off => by simp [RepC]
  | x :: xs, b, off => by
    simp only [RepC]
    rw [RepC_iff (xs := xs)]
    constructor
    · rintro ⟨h0, h1⟩ j y hj
      cases j with
      | zero => simp only [List.getElem?_cons_zero, Option.some.injEq] at hj; subst hj; exact h0
      | succ j =>
        rw [List.getElem?_cons_succ] at hj
        have := h1 j y hj
        rwa [show off + 1 + j = off + (j + 1) by omega] at this
    · intro h
      refine ⟨h 0 x rfl, fun j y hj => ?_⟩
      have := h (j + 1) y (by rw [List.getElem?_cons_succ]; exact hj)
      rwa [show off + (j + 1) = off + 1 + j by omega] at this

theorem RepE_iff {c : Cx} {sz : Nat} : ∀ {es : List (List AV)} {b off : Nat}, AllLen sz es → (RepE c es b off ↔ ∀ i e, es[i]? = some e → RepC c e b (off + i * sz))
  | [], b, off => fun _ => by simp [RepE]
  | e :: es, b, off => fun hl => by
    simp only [RepE]
    have he : e.length = sz := hl e (by simp)
    rw [RepE_iff (es := es) (sz := sz) (fun x hx => hl x (by simp [hx])), he]
    constructor
    · rintro ⟨h0, h1⟩ i y hi
      cases i with
      | zero => simp only [List.getElem?_cons_zero, Option.some.injEq] at hi; subst hi; simpa using h0
      | succ i =>
        rw [List.getElem?_cons_succ] at hi
        have := h1 i y hi
        rwa [show off + sz + i * sz = off + (i + 1) * sz by rw [Nat.add_mul]; omega] at this
    · intro h
      refine ⟨by simpa using h 0 e rfl, fun i y hi => ?_⟩
      have := h (i + 1) y (by rw [List.getElem?_cons_succ]; exact hi)
      rwa [show off + (i + 1) * sz = off + sz + i * sz by rw [Nat.add_mul]; omega] at this

theorem RepL_length {c : Cx} : ∀ {xs : List AV} {vs : List Value}, RepL c xs vs → vs.length = xs.length
  | [], vs => fun h => by simp only [RepL] at h; simp [h]
  | x :: xs, vs => fun h => by
    simp only [RepL] at h
    obtain ⟨v, vs', rfl, _, _, h2⟩ := h
    simp [RepL_length h2]

theorem RepL_iff {c : Cx} : ∀ {xs : List AV} {vs : List Value}, RepL c xs vs ↔ vs.length = xs.length ∧ ∀ (j : Nat) x, xs[j]? = some x → ∃ v, vs[j]? = some v ∧ v.oneCell' = true ∧ RepV c x v
  | [], vs => by simp [RepL]
  | x :: xs, vs => by
    simp only [RepL]
    constructor
    · rintro ⟨v, vs', rfl, ho, h1, h2⟩
      obtain ⟨hl, h3⟩ := RepL_iff.1 h2
      refine ⟨by simp [hl], fun j y hj => ?_⟩
      cases j with
      | zero => simp only [List.getElem?_cons_zero, Option.some.injEq] at hj; subst hj; exact ⟨v, rfl, ho, h1⟩
      | succ j => rw [List.getElem?_cons_succ] at hj ⊢; exact h3 j y hj
    · rintro ⟨hl, h⟩
      cases vs with
      | nil => simp at hl
      | cons v vs' =>
        obtain ⟨v0, hv0, ho, h1⟩ := h 0 x rfl
        simp only [List.getElem?_cons_zero, Option.some.injEq] at hv0
        subst hv0
        refine ⟨v, vs', rfl, ho, h1, RepL_iff.2 ⟨by simpa using hl, fun j y hj => ?_⟩⟩
        have := h (j + 1) y (by rw [List.getElem?_cons_succ]; exact hj)
        rwa [List.getElem?_cons_succ] at this

theorem RepT_iff {c : Cx} : ∀ {xs : List AV} {vs : List Value}, RepT c xs vs ↔ vs.length = xs.length ∧ ∀ (j : Nat) x, xs[j]? = some x → ∃ v, vs[j]? = some v ∧ RepV c x v
  | [], vs => by simp [RepT]
  | x :: xs, vs => by
    simp only [RepT]
    constructor
    · rintro ⟨v, vs', rfl, h1, h2⟩
      obtain ⟨hl, h3⟩ := RepT_iff.1 h2
      refine ⟨by simp [hl], fun j y hj => ?_⟩
      cases j with
      | zero => simp only [List.getElem?_cons_zero, Option.some.injEq] at hj; subst hj; exact ⟨v, rfl, h1⟩
      | succ j => rw [List.getElem?_cons_succ] at hj ⊢; exact h3 j y hj
    · rintro ⟨hl, h⟩
      cases vs with
      | nil => simp at hl
      | cons v vs' =>
        obtain ⟨v0, hv0, h1⟩ := h 0 x rfl
        simp only [List.getElem?_cons_zero, Option.some.injEq] at hv0
        subst hv0
        refine ⟨v, vs', rfl, h1, RepT_iff.2 ⟨by simpa using hl, fun j y hj => ?_⟩⟩
        have := h (j + 1) y (by rw [List.getElem?_cons_succ]; exact hj)
        rwa [List.getElem?_cons_succ] at this

theorem cellish_one {c : Cx} {x : AV} {v : Value} (hc : cellish x = true) (h : RepV c x v) : v.oneCell' = true := by
  cases x <;> simp only [cellish, RepV] at hc h <;> try (first | (subst h; rfl) | (cases hc; done))
  case sl es => rcases h with ⟨rfl, _⟩ | ⟨b, off, cap, rfl, _⟩ <;> rfl
  case ptr => obtain ⟨_, b, _, rfl⟩ := h; rfl
  case eptr => obtain ⟨_, b, _, rfl⟩ := h; rfl
  case view => rcases h with ⟨_, ⟨_, rfl, _⟩ | ⟨b, cap, cur, e, _, rfl, _⟩⟩ <;> rfl
  case pcell => obtain ⟨b, off, rfl, _⟩ := h; rfl

/-- A value's cells. -/
theorem cells_rep {c : Cx} {x : AV} {v : Value} (hc : (cellsOf x).all cellish = true) (h : RepV c x v) : RepL c (cellsOf x) v.cells.toList := by
  cases x with
  | agg cs =>
    simp only [RepV] at h
    obtain ⟨vs, rfl, h⟩ := h
    simpa [cellsOf, Value.cells] using h
  | _ =>
    simp only [cellsOf, List.all_cons, List.all_nil, Bool.and_true] at hc
    have ho := cellish_one hc h
    have hcells : v.cells = #[v] := by cases v <;> simp_all [Value.cells, Value.oneCell']
    simp only [cellsOf, hcells, RepL]
    exact ⟨v, [], by simp, ho, h, rfl⟩

theorem takeAt_none_rep {c : Cx} {cs : List AV} {b off k : Nat} {x : AV} (h : takeAt none cs k = some x) (hr : RepC c cs b off) :
    ∃ v, c.w.cell? ⟨b, off + k, none⟩ = some v ∧ v.oneCell' = true ∧ RepV c x v := RepC_iff.1 hr k x h

end Go.Ev
