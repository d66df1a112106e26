/- An abstract evaluator, part 4: more on owned memory: a new generation, none at all, frozen. -/
import Derived.Test.YtfklgafihefpeaaEv3
set_option linter.unusedVariables false
set_option linter.unusedSimpArgs false
namespace Go.Ev
open Go.RowKit

section
variable {X : Nat → Prop} {base : Base} {w0 w : World} {H : Heap} {β : Nat → Nat → Option Nat}

def βset (β : Nat → Nat → Option Nat) (d g : Nat) (ob : Option Nat) : Nat → Nat → Option Nat := fun s g' => if s = d ∧ g' = g then ob else β s g'

/-- A live site's next generation is the same block; or a site begins with no block. -/
theorem HOK.regen (ok : HOK X base w0 H w β) (s : Nat) (ob : Option Nat) (blk : Blk) (hl : blk.live)
    (hrep : ∀ c' : Cx, (cx X H w β).Le c' → c'.w = w → RepB c' base ob blk)
    (hob : ∀ b, ob = some b → ∃ g k, H s = (g, some k) ∧ k.live ∧ β s g = some b) :
    HOK X base w0 (upd H s ((H s).1 + 1, some blk)) w (βset β s ((H s).1 + 1) ob) ∧ (cx X H w β).Le (cx X (upd H s ((H s).1 + 1, some blk)) w (βset β s ((H s).1 + 1) ob)) := by
  have hβ : ∀ s' g, g ≤ (H s').1 → βset β s ((H s).1 + 1) ob s' g = β s' g := fun s' g hg => by
    unfold βset
    rw [if_neg]
    rintro ⟨rfl, rfl⟩
    omega
  have hβd : βset β s ((H s).1 + 1) ob s ((H s).1 + 1) = ob := by simp [βset]
  have fix : ∀ {s1 g1 k1 b}, upd H s ((H s).1 + 1, some blk) s1 = (g1, some k1) → k1.live → βset β s ((H s).1 + 1) ob s1 g1 = some b → ∃ g k, H s1 = (g, some k) ∧ k.live ∧ β s1 g = some b := by
    intro s1 g1 k1 b h1 l1 h3
    by_cases hss : s1 = s
    · subst hss
      rw [upd_same] at h1
      injection h1 with h4 h5
      subst h4
      rw [hβd] at h3
      exact hob b h3
    · rw [upd_apply, if_neg hss] at h1
      rw [hβ s1 g1 (by rw [h1]; exact Nat.le_refl _)] at h3
      exact ⟨g1, k1, h1, l1, h3⟩
  have hle : (cx X H w β).Le (cx X (upd H s ((H s).1 + 1, some blk)) w (βset β s ((H s).1 + 1) ob)) := by
    refine ⟨Nat.le_refl _, fun b _ hm => ⟨rfl, ?_⟩, fun b cu e' h => ⟨cu, h, rfl⟩, fun s g hg => hβ s g hg.2, fun s' => ?_⟩
    · rintro (hx | ⟨s1, g1, k1, h1, l1, h3⟩)
      · exact hm (.inl hx)
      obtain ⟨g, k, h4, h5, h6⟩ := fix h1 l1 h3
      exact hm (.inr ⟨s1, g, k, h4, h5, h6⟩)
    · show (H s').1 ≤ (upd H s _ s').1
      unfold upd
      split
      · rename_i h; subst h; simp
      · exact Nat.le_refl _
  refine ⟨⟨ok.below, ok.hX, ok.hbase, ?_, ?_, ok.keep_le hle⟩, hle⟩
  · intro s1 g1 k1 h1
    by_cases hss : s1 = s
    · subst hss
      rw [upd_same] at h1
      injection h1 with h4 h5
      injection h5 with h5
      subst h4 h5
      rw [hβd]
      exact hrep _ hle rfl
    · rw [upd_apply, if_neg hss] at h1
      rw [hβ s1 g1 (by rw [h1]; exact Nat.le_refl _)]
      exact RepB.mono hle (fun _ _ _ => rfl) (ok.hp s1 g1 k1 h1)
  · intro s1 s2 g1 g2 k1 k2 i h1 l1 h2 l2 h3 h4
    obtain ⟨g1', k1', h1', l1', h3'⟩ := fix h1 l1 h3
    obtain ⟨g2', k2', h2', l2', h4'⟩ := fix h2 l2 h4
    exact ok.inj s1 s2 g1' g2' k1' k2' i h1' l1' h2' l2' h3' h4'

/-- A live array is frozen. -/
theorem HOK.freeze (ok : HOK X base w0 H w β) {s g e sz : Nat} {es : List (List AV)} (hs : H s = (g, some (.arr e sz es))) :
    HOK X base w0 (upd H s (g, some (.frz e sz es))) w β ∧ (cx X H w β).Le (cx X (upd H s (g, some (.frz e sz es))) w β) := by
  have fix : ∀ {s1 g1 k1}, upd H s (g, some (.frz e sz es)) s1 = (g1, some k1) → k1.live → s1 ≠ s ∧ H s1 = (g1, some k1) := by
    intro s1 g1 k1 h1 l1
    by_cases hss : s1 = s
    · subst hss
      rw [upd_same] at h1
      injection h1 with h4 h5
      injection h5 with h5
      subst h5
      exact l1.elim
    · rw [upd_apply, if_neg hss] at h1
      exact ⟨hss, h1⟩
  have hle : (cx X H w β).Le (cx X (upd H s (g, some (.frz e sz es))) w β) := by
    refine ⟨Nat.le_refl _, fun b _ hm => ⟨rfl, ?_⟩, fun b cu e' h => ⟨cu, h, rfl⟩, fun _ _ _ => rfl, fun s' => ?_⟩
    · rintro (hx | ⟨s1, g1, k1, h1, l1, h3⟩)
      · exact hm (.inl hx)
      obtain ⟨_, h4⟩ := fix h1 l1
      exact hm (.inr ⟨s1, g1, k1, h4, l1, h3⟩)
    · show (H s').1 ≤ (upd H s _ s').1
      unfold upd
      split
      · rename_i h; subst h; rw [hs]; exact Nat.le_refl _
      · exact Nat.le_refl _
  refine ⟨⟨ok.below, ok.hX, ok.hbase, ?_, ?_, ok.keep_le hle⟩, hle⟩
  · intro s1 g1 k1 h1
    by_cases hss : s1 = s
    · subst hss
      rw [upd_same] at h1
      injection h1 with h4 h5
      injection h5 with h5
      subst h4 h5
      have h := ok.hp s1 g _ hs
      obtain ⟨hl, h⟩ := h
      refine ⟨hl, ?_⟩
      cases hb : β s1 g with
      | none => rw [hb] at h; exact h
      | some b =>
        rw [hb] at h
        obtain ⟨_, cur, h2, _, h4⟩ := h
        refine ⟨live_lt ok hs hb, ?_, RepE.mono hle.pers es b 0 rfl h4⟩
        rintro (hx | ⟨s2, g2, k2, h5, l5, h6⟩)
        · exact ok.hX b hx (live_base ok hs trivial hb)
        obtain ⟨hne, h7⟩ := fix h5 l5
        exact hne (ok.inj s2 s1 g2 g k2 _ b h7 l5 hs trivial h6 hb)
    · rw [upd_apply, if_neg hss] at h1
      exact RepB.mono hle (fun _ _ _ => rfl) (ok.hp s1 g1 k1 h1)
  · intro s1 s2 g1 g2 k1 k2 i h1 l1 h2 l2 h3 h4
    obtain ⟨_, h1'⟩ := fix h1 l1
    obtain ⟨_, h2'⟩ := fix h2 l2
    exact ok.inj s1 s2 g1 g2 k1 k2 i h1' l1 h2' l2 h3 h4

/-! ### a slice's content, read -/
theorem view_arr (ok : HOK X base w0 H w β) {s g sz n : Nat} {v : Value} (hr : RepV (cx X H w β) (.view s g sz n) v) {e sz' : Nat} {es : List (List AV)} (hn : es.length = n) (hsz : sz' = sz)
    (hb : RepB (cx X H w β) base (β s g) (.arr e sz' es) ∨ RepB (cx X H w β) base (β s g) (.frz e sz' es)) :
    AllLen sz es ∧ ((v = .slice none 0 0 ∧ es = [] ∧ β s g = none) ∨ ∃ b cap, β s g = some b ∧ v = .slice (some ⟨b, 0, none⟩) n cap ∧ n ≤ cap ∧ b < w.heap.size ∧ RepE (cx X H w β).pers es b 0) := by
  subst hsz
  simp only [RepV] at hr
  obtain ⟨_, hr⟩ := hr
  have hal : AllLen sz' es := by rcases hb with hb | hb <;> exact hb.1
  refine ⟨hal, ?_⟩
  rcases hr with ⟨h1, h2, h3⟩ | ⟨b, cap, cur, e', h1, h2, h3, h4, h5, h6⟩
  · exact .inl ⟨h2, List.eq_nil_of_length_eq_zero (by omega), h1⟩
  · refine .inr ⟨b, cap, h1, h2, h3, (Array.getElem?_eq_some_iff.1 h5).1, ?_⟩
    rw [show β s g = some b from h1] at hb
    rcases hb with hb | hb
    · obtain ⟨_, _, cur', h7, h8, h9⟩ := hb
      exact h9
    · obtain ⟨_, _, _, h9⟩ := hb
      exact h9

/-- What 'readQ' reads lies there. -/
theorem read_sound (ok : HOK X base w0 H w β) {x : AV} {v : Value} (hr : RepV (cx X H w β) x v) {K : List (List AV) → Prop} (h : readQ H x K) :
    ∃ es, K es ∧ ((v = .slice none 0 0 ∧ es = []) ∨ ∃ b off cap, v = .slice (some ⟨b, off, none⟩) es.length cap ∧ es.length ≤ cap ∧ b < w.heap.size ∧ RepE (cx X H w β).pers es b off) := by
  cases x with
  | sl es =>
    simp only [readQ] at h
    simp only [RepV] at hr
    refine ⟨es, h, ?_⟩
    rcases hr with ⟨h1, h2⟩ | ⟨b, off, cap, h1, h2, h3, _, h5⟩
    · exact .inl ⟨h1, List.eq_nil_of_length_eq_zero h2⟩
    · exact .inr ⟨b, off, cap, h1, h2, h3, h5⟩
  | slN es =>
    simp only [readQ] at h
    simp only [RepV] at hr
    obtain ⟨b, off, cap, h1, h2, h3, _, h5⟩ := hr
    exact ⟨es, h, .inr ⟨b, off, cap, h1, h2, h3, h5⟩⟩
  | nil =>
    simp only [readQ] at h
    simp only [RepV] at hr
    exact ⟨[], h, .inl ⟨hr, rfl⟩⟩
  | view s g sz n =>
    simp only [readQ] at h
    split at h
    · rename_i g' e' sz' es hH
      obtain ⟨rfl, hsz, hn, hK⟩ := h
      refine ⟨es, hK, ?_⟩
      obtain ⟨_, h1⟩ := view_arr ok hr hn hsz (.inl (ok.hp s g _ hH))
      rcases h1 with ⟨h1, h2, _⟩ | ⟨b, cap, _, h2, h3, h4, h5⟩
      · exact .inl ⟨h1, h2⟩
      · exact .inr ⟨b, 0, cap, by rw [h2, hn], by omega, h4, h5⟩
    · rename_i g' e' sz' es hH
      obtain ⟨rfl, hsz, hn, hK⟩ := h
      refine ⟨es, hK, ?_⟩
      obtain ⟨_, h1⟩ := view_arr ok hr hn hsz (.inr (ok.hp s g _ hH))
      rcases h1 with ⟨h1, h2, _⟩ | ⟨b, cap, _, h2, h3, h4, h5⟩
      · exact .inl ⟨h1, h2⟩
      · exact .inr ⟨b, 0, cap, by rw [h2, hn], by omega, h4, h5⟩
    · exact h.elim
  | _ => simp only [readQ] at h

/-- H1 is H, but for arrays that have been frozen. -/
def FrzOf (H H1 : Heap) : Prop := ∀ s, H1 s = H s ∨ ∃ g e sz es, H s = (g, some (.arr e sz es)) ∧ H1 s = (g, some (.frz e sz es))

theorem FrzOf.refl (H : Heap) : FrzOf H H := fun _ => .inl rfl

theorem updH_append (h : Heap) : ∀ (us vs : Upds), updH h (us ++ vs) = updH (updH h us) vs
  | [], _ => rfl
  | (s, g, b) :: us, vs => by simp only [List.cons_append, updH]; exact updH_append _ us vs

end

def PersA : AV → Bool
  | .agg cs => cs.all Pers
  | v => Pers v

theorem Pers.cellish {x : AV} (h : Pers x = true) : cellish x = true := by cases x <;> simp_all [Pers, Ev.cellish]

section
variable {X : Nat → Prop} {base : Base} {w0 w : World} {H H1 : Heap} {β : Nat → Nat → Option Nat}

theorem freeze_sound (ok : HOK X base w0 H1 w β) (hf : FrzOf H H1) {x : AV} {v : Value} (hr : RepV (cx X H1 w β) x v) {K : Kont} (h : freezeQ H x K) :
    ∃ x' us, K x' us ∧ HOK X base w0 (updH H1 us) w β ∧ (cx X H1 w β).Le (cx X (updH H1 us) w β) ∧ FrzOf H (updH H1 us) ∧ RepV (cx X (updH H1 us) w β) x' v ∧ Pers x' = true := by
  cases x with
  | int k n => exact ⟨_, [], h, ok, .refl _, hf, hr, rfl⟩
  | bool b => exact ⟨_, [], h, ok, .refl _, hf, hr, rfl⟩
  | str s => exact ⟨_, [], h, ok, .refl _, hf, hr, rfl⟩
  | fn f => exact ⟨_, [], h, ok, .refl _, hf, hr, rfl⟩
  | sl es => exact ⟨_, [], h, ok, .refl _, hf, hr, rfl⟩
  | nil =>
    simp only [RepV] at hr
    exact ⟨.sl [], [], h, ok, .refl _, hf, by simp only [RepV]; exact .inl ⟨hr, rfl⟩, rfl⟩
  | view s g sz n =>
    have frz : ∀ {e es}, H1 s = (g, some (.frz e sz es)) → es.length = n → RepV (cx X H1 w β) (.sl es) v := by
      intro e es hs hn
      have hp := ok.hp s g _ hs
      obtain ⟨_, h1⟩ := view_arr ok hr hn rfl (.inr hp)
      simp only [RepV]
      rcases h1 with ⟨h1, h2, _⟩ | ⟨b, cap, h0, h2, h3, h4, h5⟩
      · exact .inl ⟨h1, by simp [h2]⟩
      · refine .inr ⟨b, 0, cap, by rw [h2, hn], by omega, h4, ?_, h5⟩
        obtain ⟨_, hp⟩ := hp
        rw [h0] at hp
        exact hp.2.1
    simp only [freezeQ] at h
    split at h
    · rename_i g' e' sz' es hH
      obtain ⟨rfl, rfl, hn, hK⟩ := h
      rcases hf s with h1 | ⟨g2, e2, sz2, es2, h1, h2⟩
      · rw [hH] at h1
        obtain ⟨ok', hle⟩ := ok.freeze h1
        refine ⟨_, _, hK, ok', hle, ?_, ?_, rfl⟩
        · intro s'
          by_cases hss : s' = s
          · subst hss; exact .inr ⟨g, e', sz', es, hH, upd_same _ _ _⟩
          · have e1 : updH H1 [(s, g, some (.frz e' sz' es))] s' = H1 s' := by simp only [updH]; rw [upd_apply, if_neg hss]
            rw [e1]
            exact hf s'
        · have hr' := RepV.mono hle _ _ hr
          have hs' : upd H1 s (g, some (.frz e' sz' es)) s = (g, some (.frz e' sz' es)) := upd_same _ _ _
          have hp := ok'.hp s g _ hs'
          obtain ⟨_, h1⟩ := view_arr ok' hr' hn rfl (.inr hp)
          simp only [RepV]
          rcases h1 with ⟨h1, h2, _⟩ | ⟨b, cap, h0, h2, h3, h4, h5⟩
          · exact .inl ⟨h1, by simp [h2]⟩
          · refine .inr ⟨b, 0, cap, by rw [h2, hn], by omega, h4, ?_, h5⟩
            obtain ⟨_, hp⟩ := hp
            rw [h0] at hp
            exact hp.2.1
      · rw [hH] at h1
        injection h1 with h3 h4
        injection h4 with h4
        injection h4 with h5 h6 h7
        subst h3 h5 h6 h7
        have hsame : upd H1 s (g, some (.frz e' sz' es)) = H1 := by
          funext s'
          unfold upd
          split
          · rename_i h; subst h; exact h2.symm
          · rfl
        refine ⟨_, _, hK, ?_⟩
        show HOK X base w0 (upd H1 s _) w β ∧ (cx X H1 w β).Le (cx X (upd H1 s _) w β) ∧ FrzOf H (upd H1 s _) ∧ RepV (cx X (upd H1 s _) w β) _ v ∧ _
        rw [hsame]
        exact ⟨ok, .refl _, hf, frz h2 hn, rfl⟩
    · rename_i g' e' sz' es hH
      obtain ⟨rfl, rfl, hn, hK⟩ := h
      rcases hf s with h1 | ⟨g2, e2, sz2, es2, h1, h2⟩
      · rw [hH] at h1
        exact ⟨_, [], hK, ok, .refl _, hf, frz h1 hn, rfl⟩
      · rw [hH] at h1
        injection h1 with h3 h4
        injection h4 with h4
        cases h4
    · exact h.elim
  | _ => simp only [freezeQ] at h

theorem freezeL_sound : ∀ {H1 : Heap} (_ok : HOK X base w0 H1 w β) (_hf : FrzOf H H1) (xs : List AV) (vs : List Value) (_hr : RepL (cx X H1 w β) xs vs) {K : List AV → Upds → Prop} (_h : freezeLQ H xs K),
    ∃ xs' us, K xs' us ∧ HOK X base w0 (updH H1 us) w β ∧ (cx X H1 w β).Le (cx X (updH H1 us) w β) ∧ FrzOf H (updH H1 us) ∧ RepL (cx X (updH H1 us) w β) xs' vs ∧ xs'.all Pers = true ∧ xs'.length = xs.length
  | H1, ok, hf, [], vs, hr, K, h => by
    simp only [RepL] at hr
    exact ⟨[], [], h, ok, .refl _, hf, by simp only [RepL]; exact hr, rfl, rfl⟩
  | H1, ok, hf, x :: xs, vs, hr, K, h => by
    simp only [RepL] at hr
    obtain ⟨v, vs', rfl, ho, hx, hxs⟩ := hr
    simp only [freezeLQ] at h
    obtain ⟨x', us, h1, ok1, le1, hf1, r1, p1⟩ := freeze_sound ok hf hx h
    obtain ⟨xs', us', h2, ok2, le2, hf2, r2, p2, l2⟩ := freezeL_sound ok1 hf1 xs vs' (RepL.mono le1 _ _ hxs) h1
    refine ⟨x' :: xs', us ++ us', h2, ?_⟩
    rw [updH_append]
    refine ⟨ok2, le1.trans le2, hf2, ?_, by simp [p1, p2], by simp [l2]⟩
    simp only [RepL]
    exact ⟨v, vs', rfl, ho, RepV.mono le2 _ _ r1, r2⟩

theorem freezeA_sound (ok : HOK X base w0 H1 w β) (hf : FrzOf H H1) {x : AV} {v : Value} (hr : RepV (cx X H1 w β) x v) {K : Kont} (h : freezeAQ H x K) :
    ∃ x' us, K x' us ∧ HOK X base w0 (updH H1 us) w β ∧ (cx X H1 w β).Le (cx X (updH H1 us) w β) ∧ FrzOf H (updH H1 us) ∧ RepV (cx X (updH H1 us) w β) x' v ∧ PersA x' = true := by
  by_cases hx : ∃ cs, x = .agg cs
  · obtain ⟨cs, rfl⟩ := hx
    simp only [RepV] at hr
    obtain ⟨vs, rfl, hr⟩ := hr
    simp only [freezeAQ] at h
    obtain ⟨xs', us, h1, ok1, le1, hf1, r1, p1, _⟩ := freezeL_sound ok hf cs vs hr h
    exact ⟨_, us, h1, ok1, le1, hf1, by simp only [RepV]; exact ⟨vs, rfl, r1⟩, p1⟩
  · have h' : freezeQ H x K := by
      cases x <;> first | exact h | exact absurd ⟨_, rfl⟩ hx
    obtain ⟨x', us, h1, ok1, le1, hf1, r1, p1⟩ := freeze_sound ok hf hr h'
    refine ⟨x', us, h1, ok1, le1, hf1, r1, ?_⟩
    cases x' <;> simp_all [Pers, PersA]

theorem freezeAL_sound : ∀ {H1 : Heap} (_ok : HOK X base w0 H1 w β) (_hf : FrzOf H H1) (xs : List AV) (vs : List Value) (_hr : RepT (cx X H1 w β) xs vs) {K : List AV → Upds → Prop} (_h : freezeALQ H xs K),
    ∃ xs' us, K xs' us ∧ HOK X base w0 (updH H1 us) w β ∧ (cx X H1 w β).Le (cx X (updH H1 us) w β) ∧ FrzOf H (updH H1 us) ∧ RepT (cx X (updH H1 us) w β) xs' vs ∧ xs'.all PersA = true ∧ xs'.length = xs.length
  | H1, ok, hf, [], vs, hr, K, h => by
    simp only [RepT] at hr
    exact ⟨[], [], h, ok, .refl _, hf, by simp only [RepT]; exact hr, rfl, rfl⟩
  | H1, ok, hf, x :: xs, vs, hr, K, h => by
    simp only [RepT] at hr
    obtain ⟨v, vs', rfl, hx, hxs⟩ := hr
    simp only [freezeALQ] at h
    obtain ⟨x', us, h1, ok1, le1, hf1, r1, p1⟩ := freezeA_sound ok hf hx h
    obtain ⟨xs', us', h2, ok2, le2, hf2, r2, p2, l2⟩ := freezeAL_sound ok1 hf1 xs vs' (RepT.mono le1 _ _ hxs) h1
    refine ⟨x' :: xs', us ++ us', h2, ?_⟩
    rw [updH_append]
    refine ⟨ok2, le1.trans le2, hf2, ?_, by simp [p1, p2], by simp [l2]⟩
    simp only [RepT]
    exact ⟨v, vs', rfl, RepV.mono le2 _ _ r1, r2⟩

theorem freezeNL_sound : ∀ {H1 : Heap} (_ok : HOK X base w0 H1 w β) (_hf : FrzOf H H1) (xs : List AV) (vs : List Value) (_hr : RepT (cx X H1 w β) xs vs) {K : List AV → Upds → Prop} (_h : freezeNLQ H xs K),
    ∃ xs' us, K xs' us ∧ HOK X base w0 (updH H1 us) w β ∧ (cx X H1 w β).Le (cx X (updH H1 us) w β) ∧ FrzOf H (updH H1 us) ∧ RepT (cx X (updH H1 us) w β) xs' vs ∧ xs'.all PersA = true ∧ xs'.length = xs.length
  | H1, ok, hf, [], vs, hr, K, h => by
    simp only [RepT] at hr
    exact ⟨[], [], h, ok, .refl _, hf, by simp only [RepT]; exact hr, rfl, rfl⟩
  | H1, ok, hf, x :: xs, vs, hr, K, h => by
    simp only [RepT] at hr
    obtain ⟨v, vs', rfl, hx, hxs⟩ := hr
    simp only [freezeNLQ] at h
    have hn : ∀ {K : Kont}, freezeNQ H x K → ∃ x' us, K x' us ∧ HOK X base w0 (updH H1 us) w β ∧ (cx X H1 w β).Le (cx X (updH H1 us) w β) ∧ FrzOf H (updH H1 us) ∧ RepV (cx X (updH H1 us) w β) x' v ∧ PersA x' = true := by
      intro K h
      unfold freezeNQ at h
      split at h
      · exact ⟨.nil, [], h, ok, .refl _, hf, hx, rfl⟩
      · exact freezeA_sound ok hf hx h
    obtain ⟨x', us, h1, ok1, le1, hf1, r1, p1⟩ := hn h
    obtain ⟨xs', us', h2, ok2, le2, hf2, r2, p2, l2⟩ := freezeNL_sound ok1 hf1 xs vs' (RepT.mono le1 _ _ hxs) h1
    refine ⟨x' :: xs', us ++ us', h2, ?_⟩
    rw [updH_append]
    refine ⟨ok2, le1.trans le2, hf2, ?_, by simp [p1, p2], by simp [l2]⟩
    simp only [RepT]
    exact ⟨v, vs', rfl, RepV.mono le2 _ _ r1, r2⟩

end

/-! ### what is persistent, in another context of the same world -/
theorem Pers.pers {c c' : Cx} {x : AV} {v : Value} (hp : Pers x = true) (hc : c.pers = c'.pers) (h : RepV c x v) : RepV c' x v := by
  have hw : c.w = c'.w := by have h := congrArg Cx.w hc; exact h
  have hM : c.M = c'.M := by have h := congrArg Cx.M hc; exact h
  cases x <;> simp only [Pers] at hp <;> simp only [RepV] at h ⊢ <;> first | exact h | (rw [← hw, ← hM, ← hc]; exact h) | cases hp

theorem PersL.pers {c c' : Cx} (hc : c.pers = c'.pers) : ∀ {xs : List AV} {vs : List Value}, xs.all Pers = true → RepL c xs vs → RepL c' xs vs
  | [], vs => fun _ h => by simp only [RepL] at h ⊢; exact h
  | x :: xs, vs => fun hp h => by
    simp only [List.all_cons, Bool.and_eq_true] at hp
    simp only [RepL] at h ⊢
    obtain ⟨v, vs', e, ho, h1, h2⟩ := h
    exact ⟨v, vs', e, ho, Pers.pers hp.1 hc h1, PersL.pers hc hp.2 h2⟩

theorem PersA.pers {c c' : Cx} {x : AV} {v : Value} (hp : PersA x = true) (hc : c.pers = c'.pers) (h : RepV c x v) : RepV c' x v := by
  by_cases hx : ∃ cs, x = .agg cs
  · obtain ⟨cs, rfl⟩ := hx
    simp only [RepV] at h ⊢
    obtain ⟨vs, e, h⟩ := h
    exact ⟨vs, e, PersL.pers hc hp h⟩
  · have hp' : Pers x = true := by cases x <;> first | exact hp | exact absurd ⟨_, rfl⟩ hx
    exact Pers.pers hp' hc h

theorem PersT.pers {c c' : Cx} (hc : c.pers = c'.pers) : ∀ {xs : List AV} {vs : List Value}, xs.all PersA = true → RepT c xs vs → RepT c' xs vs
  | [], vs => fun _ h => by simp only [RepT] at h ⊢; exact h
  | x :: xs, vs => fun hp h => by
    simp only [List.all_cons, Bool.and_eq_true] at hp
    simp only [RepT] at h ⊢
    obtain ⟨v, vs', e, h1, h2⟩ := h
    exact ⟨v, vs', e, PersA.pers hp.1 hc h1, PersT.pers hc hp.2 h2⟩

end Go.Ev
