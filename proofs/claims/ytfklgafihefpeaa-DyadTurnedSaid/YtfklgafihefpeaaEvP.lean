/- An abstract evaluator, part 25: what printed walks use: plain words for steps that may fail, loops, joins, states told otherwise. -/
import Derived.Test.YtfklgafihefpeaaEvO
set_option linter.unusedVariables false
set_option linter.unusedSimpArgs false
namespace Go.Ev
open Go.RowKit

/-! ### plain words -/
abbrev Str := List UInt8
def bnd {α β : Type} (o : Option α) (f : α → Option β) : Option β :=
  match o with
  | none => none
  | some a => f a
def lt {α β : Type} (a : α) (f : α → Option β) : Option β := f a
def sm {α β γ : Type} (x : α ⊕ β) (f : α → γ) (g : β → γ) : γ :=
  match x with
  | .inl a => f a
  | .inr b => g b
def chk (p : Prop) [Decidable p] : Option Unit := if p then some () else none
def get {α : Type} (l : List α) (i : Int) : Option α := if 0 ≤ i then l[i.toNat]? else none
def getS {α : Type} (l : List α) (off n : Nat) (i : Int) : Option α := if 0 ≤ i ∧ i < n then l[off + i.toNat]? else none
def putS {α : Type} (l : List α) (off n : Nat) (i : Int) (a : α) : Option (List α) := if 0 ≤ i ∧ i < n ∧ off + i.toNat < l.length then some (l.set (off + i.toNat) a) else none
def put {α : Type} (l : List α) (i : Int) (a : α) : Option (List α) := if 0 ≤ i ∧ i < l.length then some (l.set i.toNat a) else none
def sub {α : Type} (l : List α) (a b : Int) : Option (List α) := if 0 ≤ a ∧ a ≤ b ∧ b ≤ l.length then some ((l.take b.toNat).drop a.toNat) else none
def mk {α : Type} (bytes : Nat) (n c : Int) (z : α) : Option (List α) :=
  if 0 ≤ n ∧ n ≤ c ∧ (bytes : Int) * c ≤ 140737488355328 ∧ c ≤ 1099511627776 then some (List.replicate n.toNat z) else none
def app {α : Type} (bytes : Nat) (l m : List α) : Option (List α) :=
  if (l.length + m.length) * bytes ≤ 140737488355328 ∧ l.length + m.length ≤ 1099511627776 then some (l ++ m) else none
def cat (a b : Str) : Option Str := if a.length + b.length ≤ 9223372036854775807 then some (a ++ b) else none
def cpy {α : Type} (l m : List α) : List α := m.take l.length ++ l.drop m.length
def cpn {α : Type} (l m : List α) : Int := (Nat.min m.length l.length : Nat)
def codes (s : Str) : List Int := s.map fun b => (b.toNat : Int)
def ofCodes (l : List Int) : Str := l.map fun n => UInt8.ofNat n.toNat
abbrev wrap (k : IntKind) (n : Int) : Int := k.wrap n
abbrev band (k : IntKind) (a b : Int) : Int := k.wrap (BitVec.ofInt k.bits a &&& BitVec.ofInt k.bits b).toNat
abbrev bor (k : IntKind) (a b : Int) : Int := k.wrap (BitVec.ofInt k.bits a ||| BitVec.ofInt k.bits b).toNat
abbrev bxor (k : IntKind) (a b : Int) : Int := k.wrap (BitVec.ofInt k.bits a ^^^ BitVec.ofInt k.bits b).toNat
abbrev bnot (k : IntKind) (a : Int) : Int := k.wrap (BitVec.ofInt k.bits (if k.signed then -1 else k.max) ^^^ BitVec.ofInt k.bits a).toNat
abbrev shl (k : IntKind) (a b : Int) : Int := k.wrap (a * 2 ^ Nat.min b.toNat k.bits)
abbrev shr (k : IntKind) (a b : Int) : Int := a / 2 ^ Nat.min b.toNat k.bits
abbrev mxI (a b : Int) : Int := if b > a then b else a
abbrev mnI (a b : Int) : Int := if b < a then b else a

/-- A loop's turns. -/
def iterN {σ ξ : Type} (b : σ → Option (σ ⊕ ξ)) : Nat → σ → Option ξ
  | 0, _ => none
  | n + 1, s => match b s with
    | none => none
    | some (.inl s') => iterN b n s'
    | some (.inr x) => some x
open Classical in
/-- A loop: what it ends with; none if it doesn't end well. -/
noncomputable def iter {σ ξ : Type} (b : σ → Option (σ ⊕ ξ)) (s : σ) : Option ξ :=
  if h : ∃ n x, iterN b n s = some x then some (Classical.choose (Classical.choose_spec h)) else none

theorem bnd_some {α β : Type} {o : Option α} {f : α → Option β} {r : β} (h : bnd o f = some r) : ∃ a, o = some a ∧ f a = some r := by
  cases o with
  | none => cases h
  | some a => exact ⟨a, rfl, h⟩
theorem lt_some {α β : Type} {a : α} {f : α → Option β} {r : β} (h : lt a f = some r) : ∃ x, some a = some x ∧ f x = some r := ⟨a, rfl, h⟩
theorem some_inj {α : Type} {a b : α} (h : some a = some b) : a = b := Option.some.inj h
theorem ite_some {α : Type} {c : Bool} {x y : Option α} {r : α} (h : (if c = true then x else y) = some r) : (c = true ∧ x = some r) ∨ (c = false ∧ y = some r) := by
  cases c with
  | true => exact .inl ⟨rfl, h⟩
  | false => exact .inr ⟨rfl, h⟩
theorem itep {α : Type} {c : Bool} {x y : α} {r : α} (h : some (if c = true then x else y) = some r) : (c = true ∧ some x = some r) ∨ (c = false ∧ some y = some r) := by
  cases c with
  | true => exact .inl ⟨rfl, h⟩
  | false => exact .inr ⟨rfl, h⟩
theorem sm_l {α β γ : Type} {a : α} {f : α → Option γ} {g : β → Option γ} {r : γ} (h : sm (.inl a) f g = some r) : f a = some r := h
theorem sm_r {α β γ : Type} {b : β} {f : α → Option γ} {g : β → Option γ} {r : γ} (h : sm (.inr b) f g = some r) : g b = some r := h
theorem app_ofNil {α : Type} {b : Nat} {m r : List α} (h : app b [] m = some r) : r = m := by
  unfold app at h
  split at h
  · exact (Option.some.inj h).symm
  · cases h
theorem chk_some {p : Prop} [Decidable p] {u : Unit} (h : chk p = some u) : p := by
  unfold chk at h
  split at h
  · assumption
  · cases h
section
variable {α : Type} {l l' : List α} {i : Int} {a : α}
theorem get_at (h : get l i = some a) : l[i.toNat]? = some a := by
  unfold get at h
  split at h
  · exact h
  · cases h
theorem get_in (h : get l i = some a) : 0 ≤ i ∧ i < l.length := by
  have h1 := get_at h
  unfold get at h
  split at h
  · rename_i h0
    have := (List.getElem?_eq_some_iff.1 h1).1
    omega
  · cases h
theorem getS_at {off n : Nat} (h : getS l off n i = some a) : l[off + i.toNat]? = some a := by
  unfold getS at h
  split at h
  · exact h
  · cases h
theorem getS_in {off n : Nat} (h : getS l off n i = some a) : 0 ≤ i ∧ i < n := by
  unfold getS at h
  split at h
  · assumption
  · cases h
theorem putS_at {off n : Nat} (h : putS l off n i a = some l') : off + i.toNat < l.length ∧ l' = l.set (off + i.toNat) a := by
  unfold putS at h
  split at h
  · rename_i h1
    exact ⟨h1.2.2, (Option.some.inj h).symm⟩
  · cases h
theorem putS_in {off n : Nat} (h : putS l off n i a = some l') : 0 ≤ i ∧ i < n := by
  unfold putS at h
  split at h
  · rename_i h1
    exact ⟨h1.1, h1.2.1⟩
  · cases h
theorem put_at (h : put l i a = some l') : i.toNat < l.length ∧ l' = l.set i.toNat a := by
  unfold put at h
  split at h
  · rename_i h1
    exact ⟨by omega, (Option.some.inj h).symm⟩
  · cases h
theorem put_in (h : put l i a = some l') : 0 ≤ i ∧ i < l.length := by
  unfold put at h
  split at h
  · assumption
  · cases h
theorem put_eq (h : put l i a = some l') : l' = l.set i.toNat a := by
  unfold put at h
  split at h
  · exact (Option.some.inj h).symm
  · cases h
end

section
variable {σ ξ : Type} {b : σ → Option (σ ⊕ ξ)}
theorem iterN_mono : ∀ {n : Nat} {s : σ} {x : ξ}, iterN b n s = some x → ∀ m, n ≤ m → iterN b m s = some x
  | 0, s, x, h, m, hm => by simp [iterN] at h
  | n + 1, s, x, h, 0, hm => by omega
  | n + 1, s, x, h, m + 1, hm => by
    simp only [iterN] at h ⊢
    split at h
    · cases h
    · exact iterN_mono h m (by omega)
    · exact h
theorem iter_of {n : Nat} {s : σ} {x : ξ} (h : iterN b n s = some x) : iter b s = some x := by
  unfold iter
  have hex : ∃ n x, iterN b n s = some x := ⟨n, x, h⟩
  rw [dif_pos hex]
  have h1 := Classical.choose_spec (Classical.choose_spec hex)
  have h2 := iterN_mono h1 (max n (Classical.choose hex)) (Nat.le_max_right _ _)
  have h3 := iterN_mono h (max n (Classical.choose hex)) (Nat.le_max_left _ _)
  rw [h2] at h3
  exact h3
theorem iter_some {s : σ} {x : ξ} (h : iter b s = some x) : ∃ n, iterN b n s = some x := by
  unfold iter at h
  split at h
  · rename_i hex
    refine ⟨Classical.choose hex, ?_⟩
    rw [← h]
    exact Classical.choose_spec (Classical.choose_spec hex)
  · cases h
end

/-! ### strings -/
def bs (l : Str) : ByteArray := ⟨l.toArray⟩
theorem bs_size (l : Str) : (bs l).size = l.length := by simp [bs, ByteArray.size]
theorem bs_toList (l : Str) : (bs l).toList = l := by rw [ByteArray.toList_eq]; simp [bs]
theorem bs_append (a b : Str) : bs a ++ bs b = bs (a ++ b) := by
  refine S.bytes_inj ?_
  rw [ByteArray.toList_eq, ByteArray.toList_eq]
  simp [bs]
theorem bs_get (l : Str) (j : Nat) : (bs l).data[j]? = l[j]? := by simp [bs]
theorem bs_extract (l : Str) (a b : Nat) : (bs l).extract a b = bs ((l.take b).drop a) := by
  refine S.bytes_inj ?_
  rw [ByteArray.toList_eq, ByteArray.toList_eq]
  simp [bs, List.drop_take]
theorem bs_eq (s : ByteArray) : bs s.data.toList = s := by simp [bs]

/-! ### cells of elements -/
abbrev c_i64 (x : Int) : List AV := [.int .i64 x]
abbrev c_i32 (x : Int) : List AV := [.int .i32 x]
abbrev c_u64 (x : Int) : List AV := [.int .u64 x]
abbrev c_u32 (x : Int) : List AV := [.int .u32 x]
abbrev c_u8 (x : Int) : List AV := [.int .u8 x]
abbrev c_b (x : Bool) : List AV := [.bool x]
abbrev c_s (x : Str) : List AV := [.str (bs x)]
theorem allLen_map {α : Type} {c : α → List AV} {sz : Nat} (h : ∀ a, (c a).length = sz) (l : List α) : AllLen sz (l.map c) := by
  intro e he
  obtain ⟨a, _, rfl⟩ := List.mem_map.1 he
  exact h a
theorem bytesOf_map (l : List Int) : bytesOfEs (l.map c_u8) = some (ofCodes l) := by
  induction l with
  | nil => rfl
  | cons a l ih => simp only [List.map_cons, c_u8, bytesOfEs, ih, Option.map_some, ofCodes]

/-! ### states told otherwise -/
theorem Ghost.refl (st : St) : Ghost st st := fun _ _ _ _ _ _ β h => ⟨β, h⟩
theorem Ghost.trans {a b c : St} (h : Ghost a b) (k : Ghost b c) : Ghost a c := fun X n base w0 ac w β hs =>
  let ⟨β1, h1⟩ := h X n base w0 ac w β hs
  k X n base w0 ac w β1 h1

theorem Ghost.env {e e' : Nat → AV} {H : Heap} (h : ∀ c v t, RepV c (e t) v → RepV c (e' t) v) : Ghost ⟨e, H⟩ ⟨e', H⟩ := fun _ _ _ _ _ _ β hs =>
  ⟨β, hs.defers, hs.size, hs.ok, fun t => h _ _ t (hs.tm t)⟩

theorem Ghost.nilSlSlot {e : Nat → AV} {H : Heap} {d : Nat} (h : e d = .nil) : Ghost ⟨e, H⟩ ⟨upd e d (.sl []), H⟩ := Ghost.env fun c v t ht => by
  unfold upd
  split
  · rename_i ht'
    subst ht'
    rw [h] at ht
    simp only [RepV] at ht ⊢
    exact .inl ⟨ht, by trivial⟩
  · exact ht

theorem Ghost.nilViewSlot {e : Nat → AV} {H : Heap} {d s t sz : Nat} (h : e d = .nil) :
    Ghost ⟨e, H⟩ ⟨upd e d (.view s ((H s).1 + 1) sz 0), upd H s ((H s).1 + 1, some (.arr t sz []))⟩ := fun X n base w0 a w β hs => by
  obtain ⟨ok, hle⟩ := hs.ok.regen s none (.arr t sz []) trivial (fun c' _ _ => ⟨fun x hx => (by cases hx), rfl⟩) (fun b hb => (by cases hb))
  refine ⟨_, hs.defers, hs.size, ok, fun j => ?_⟩
  show RepV _ (upd e d _ j) _
  unfold upd
  split
  · rename_i hj
    subst hj
    have h1 := hs.tm j
    rw [show (St.env ⟨e, H⟩ j) = .nil from h] at h1
    simp only [RepV] at h1 ⊢
    refine ⟨⟨Nat.succ_pos _, ?_⟩, .inl ⟨?_, h1, by trivial⟩⟩
    · show _ ≤ (upd H s _ s).1
      rw [upd_same]
      exact Nat.le_refl _
    · show βset β s ((H s).1 + 1) none s ((H s).1 + 1) = none
      simp [βset]
  · exact RepV.mono hle _ _ (hs.tm j)

theorem Ghost.freezeSlot {e : Nat → AV} {H : Heap} {d s g sz n t : Nat} {es : List (List AV)} (h : e d = .view s g sz n) (hH : H s = (g, some (.arr t sz es))) (hn : es.length = n) :
    Ghost ⟨e, H⟩ ⟨upd e d (.sl es), upd H s (g, some (.frz t sz es))⟩ := fun X n' base w0 a w β hs => by
  have h1 := hs.tm d
  rw [show (St.env ⟨e, H⟩ d) = .view s g sz n from h] at h1
  obtain ⟨x', us, ⟨e1, e2⟩, ok, hle, _, hr, _⟩ := freeze_sound (K := fun x us => x = .sl es ∧ us = [(s, g, some (.frz t sz es))]) hs.ok (FrzOf.refl _) h1 (by
    simp only [freezeQ]
    rw [hH]
    exact ⟨rfl, rfl, hn, rfl, rfl⟩)
  subst e1 e2
  refine ⟨β, hs.defers, hs.size, ok, fun j => ?_⟩
  show RepV _ (upd e d _ j) _
  unfold upd
  split
  · rename_i hj
    subst hj
    exact hr
  · exact RepV.mono hle _ _ (hs.tm j)

theorem RepC_set {c : Cx} {cs : List AV} {b off k : Nat} {x x' : AV} (h : RepC c cs b off) (hk : cs[k]? = some x) (hx : ∀ v, RepV c x v → RepV c x' v) : RepC c (cs.set k x') b off := by
  refine RepC_iff.2 fun r y hy => ?_
  have hkl := (List.getElem?_eq_some_iff.1 hk).1
  by_cases hr : k = r
  · subst hr
    rw [List.getElem?_set_self hkl] at hy
    injection hy with hy
    subst hy
    obtain ⟨v, h1, h2, h3⟩ := RepC_iff.1 h k x hk
    exact ⟨v, h1, h2, hx v h3⟩
  · rw [List.getElem?_set_ne hr] at hy
    exact RepC_iff.1 h r y hy

theorem HOK.retell {X : Nat → Prop} {base : Base} {w0 w : World} {H : Heap} {β : Nat → Nat → Option Nat} (ok : HOK X base w0 H w β) {b g k : Nat} {cs : List AV} {x x' : AV} (hH : H b = (g, some (.box cs))) (hk : cs[k]? = some x)
    (hx : ∀ v, RepV (cx X H w β) x v → RepV (cx X H w β) x' v) : HOK X base w0 (upd H b (g, some (.box (cs.set k x')))) w β := by
  have e := cx_retell (X := X) (w := w) (β := β) hH (k' := .box (cs.set k x')) trivial trivial
  have fix : ∀ {s1 g1 k1}, upd H b (g, some (.box (cs.set k x'))) s1 = (g1, some k1) → ∃ k2 : Blk, H s1 = (g1, some k2) ∧ (k1.live → k2.live) := by
    intro s1 g1 k1 h1
    by_cases hs : s1 = b
    · subst hs
      rw [upd_same] at h1
      injection h1 with h2 h3
      subst h2
      exact ⟨_, hH, fun _ => trivial⟩
    · rw [upd_apply, if_neg hs] at h1
      exact ⟨k1, h1, id⟩
  refine ⟨ok.below, ok.hX, ok.hbase, ?_, ?_, fun s1 g1 b1 h1 => ?_⟩
  · intro s1 g1 k1 h1
    rw [e]
    by_cases hs : s1 = b
    · subst hs
      rw [upd_same] at h1
      injection h1 with h2 h3
      injection h3 with h3
      subst h2 h3
      obtain ⟨i, cur, ty, h4, h5, h6, h7, h8⟩ := ok.hp s1 g _ hH
      exact ⟨i, cur, ty, h4, h5, h6, by rw [List.length_set]; exact h7, RepC_set h8 hk hx⟩
    · rw [upd_apply, if_neg hs] at h1
      exact ok.hp s1 g1 k1 h1
  · intro s1 s2 g1 g2 k1 k2 i h1 l1 h2 l2 h3 h4
    obtain ⟨k1', h1', l1'⟩ := fix h1
    obtain ⟨k2', h2', l2'⟩ := fix h2
    exact ok.inj s1 s2 g1 g2 k1' k2' i h1' (l1' l1) h2' (l2' l2) h3 h4
  · obtain ⟨h2, h3, h4⟩ := ok.keep s1 g1 b1 h1
    refine ⟨h2, ?_, h4⟩
    unfold upd
    split
    · rename_i h; subst h; rw [hH] at h3; exact h3
    · exact h3

theorem Ghost.nilSlCell {e : Nat → AV} {H : Heap} {b k g : Nat} {cs cs' : List AV} (hH : H b = (g, some (.box cs))) (hk : cs[k]? = some .nil) (hc : cs.set k (.sl []) = cs') : Ghost ⟨e, H⟩ ⟨e, upd H b (g, some (.box cs'))⟩ := fun X n base w0 a w β hs => by
  subst hc
  refine ⟨β, hs.defers, hs.size, hs.ok.retell hH hk fun v hv => RepV_denil hv, fun j => ?_⟩
  show RepV (cx X (upd H b _) w β) _ _
  rw [cx_retell hH (k' := .box _) trivial trivial]
  exact hs.tm j

theorem Ghost.nilViewCell {e : Nat → AV} {H : Heap} {b k g s t sz : Nat} {cs cs' : List AV} (hH : H b = (g, some (.box cs))) (hk : cs[k]? = some .nil) (hc : cs.set k (.view s ((H s).1 + 1) sz 0) = cs') (hne : b ≠ s) :
    Ghost ⟨e, H⟩ ⟨e, upd (upd H s ((H s).1 + 1, some (.arr t sz []))) b (g, some (.box cs'))⟩ := fun X n base w0 a w β hs => by
  subst hc
  obtain ⟨ok, hle⟩ := hs.ok.regen s none (.arr t sz []) trivial (fun c' _ _ => ⟨fun x hx => (by cases hx), rfl⟩) (fun b hb => (by cases hb))
  have hH1 : upd H s ((H s).1 + 1, some (.arr t sz [])) b = (g, some (.box cs)) := by rw [upd_apply, if_neg hne]; exact hH
  refine ⟨_, hs.defers, hs.size, ok.retell hH1 hk fun v hv => ?_, fun j => ?_⟩
  · simp only [RepV] at hv ⊢
    refine ⟨⟨Nat.succ_pos _, ?_⟩, .inl ⟨?_, hv, by trivial⟩⟩
    · show _ ≤ (upd H s _ s).1
      rw [upd_same]
      exact Nat.le_refl _
    · show βset β s ((H s).1 + 1) none s ((H s).1 + 1) = none
      simp [βset]
  · show RepV (cx X (upd (upd H s _) b _) w _) _ _
    rw [cx_retell hH1 (k' := .box _) trivial trivial]
    exact RepV.mono hle _ _ (hs.tm j)

theorem view_sl {X : Nat → Prop} {base : Base} {w0 w : World} {H : Heap} {β : Nat → Nat → Option Nat} (ok : HOK X base w0 H w β) {s g sz n t : Nat} {es : List (List AV)} {v : Value} (hr : RepV (cx X H w β) (.view s g sz n) v)
    (hs : H s = (g, some (.frz t sz es))) (hn : es.length = n) : RepV (cx X H w β) (.sl es) v := by
  have hp := ok.hp s g _ hs
  obtain ⟨_, h1⟩ := view_arr ok hr hn rfl (.inr hp)
  simp only [RepV]
  rcases h1 with ⟨h1, h2, _⟩ | ⟨b, cap, h0, h2, h3, h4, h5⟩
  · exact .inl ⟨h1, by simp [h2]⟩
  · refine .inr ⟨b, 0, cap, by rw [h2, hn], by omega, h4, ?_, h5⟩
    obtain ⟨_, hp⟩ := hp
    rw [h0] at hp
    exact hp.2.1

theorem Ghost.freezeCell {e : Nat → AV} {H : Heap} {b k g s g2 t sz n : Nat} {cs cs' : List AV} {es : List (List AV)} (hH : H b = (g, some (.box cs))) (hk : cs[k]? = some (.view s g2 sz n)) (hs2 : H s = (g2, some (.arr t sz es))) (hn : es.length = n)
    (hc : cs.set k (.sl es) = cs') : Ghost ⟨e, H⟩ ⟨e, upd (upd H s (g2, some (.frz t sz es))) b (g, some (.box cs'))⟩ := fun X n' base w0 a w β hs => by
  subst hc
  obtain ⟨ok, hle⟩ := hs.ok.freeze hs2
  have hne : b ≠ s := by
    rintro rfl
    rw [hH] at hs2
    injection hs2 with _ h
    injection h with h
    cases h
  have hH1 : upd H s (g2, some (.frz t sz es)) b = (g, some (.box cs)) := by rw [upd_apply, if_neg hne]; exact hH
  refine ⟨_, hs.defers, hs.size, ok.retell hH1 hk fun v hv => view_sl ok hv (upd_same _ _ _) hn, fun j => ?_⟩
  show RepV (cx X (upd (upd H s _) b _) w _) _ _
  rw [cx_retell hH1 (k' := .box _) trivial trivial]
  exact RepV.mono hle _ _ (hs.tm j)

/-- A box's view of frozen memory is a slice. -/
theorem Ghost.freezeSlotF {e : Nat → AV} {H : Heap} {d s g sz n t : Nat} {es : List (List AV)} (h : e d = .view s g sz n) (hH : H s = (g, some (.frz t sz es))) (hn : es.length = n) : Ghost ⟨e, H⟩ ⟨upd e d (.sl es), H⟩ := fun X n' base w0 a w β hs => by
  have h1 := hs.tm d
  rw [show (St.env ⟨e, H⟩ d) = .view s g sz n from h] at h1
  refine ⟨β, hs.defers, hs.size, hs.ok, fun j => ?_⟩
  show RepV _ (upd e d _ j) _
  unfold upd
  split
  · rename_i hj
    subst hj
    exact view_sl hs.ok h1 hH hn
  · exact hs.tm j
theorem Ghost.freezeCellF {e : Nat → AV} {H : Heap} {b k g s g2 t sz n : Nat} {cs cs' : List AV} {es : List (List AV)} (hH : H b = (g, some (.box cs))) (hk : cs[k]? = some (.view s g2 sz n)) (hs2 : H s = (g2, some (.frz t sz es))) (hn : es.length = n)
    (hc : cs.set k (.sl es) = cs') : Ghost ⟨e, H⟩ ⟨e, upd H b (g, some (.box cs'))⟩ := fun X n' base w0 a w β hs => by
  subst hc
  refine ⟨_, hs.defers, hs.size, hs.ok.retell hH hk fun v hv => view_sl hs.ok hv hs2 hn, fun j => ?_⟩
  show RepV (cx X (upd H b _) w _) _ _
  rw [cx_retell hH (k' := .box _) trivial trivial]
  exact hs.tm j

/-- Holds behind a telling otherwise. -/
structure Leaf (J : St → Prop) (st : St) : Prop where
  out : ∃ st', Ghost st st' ∧ J st'
theorem Leaf.done {J : St → Prop} {st : St} (h : J st) : Leaf J st := ⟨st, Ghost.refl _, h⟩
theorem Leaf.step {J : St → Prop} {st st1 : St} (g : Ghost st st1) (h : Leaf J st1) : Leaf J st := by
  obtain ⟨st', h1, h2⟩ := h
  exact ⟨st', g.trans h1, h2⟩

/-! ### ends of a part -/
/-- How a function ends; a slice of its own may be told as one that is shared. -/
inductive FinS (rs : List ARes) : AV → Ex → St → Prop where
  | fin {r e st} : Fin rs r e st → FinS rs r e st
  | own {t sz es e st} : Fin rs (.own t sz es) e st → FinS rs (.sl es) e st

inductive XOne {α : Type} (e0 : Ex) (J : α → St → Prop) : α → Ex → St → Prop where
  | mk {a st} : J a st → XOne e0 J a e0 st
inductive XSum {α β : Type} (X : α → Ex → St → Prop) (Y : β → Ex → St → Prop) : α ⊕ β → Ex → St → Prop where
  | l {a e st} : X a e st → XSum X Y (.inl a) e st
  | r {b e st} : Y b e st → XSum X Y (.inr b) e st
theorem XSum.invl {α β : Type} {X : α → Ex → St → Prop} {Y : β → Ex → St → Prop} {a : α} {e : Ex} {st : St} (h : XSum X Y (.inl a) e st) : X a e st := by
  cases h
  assumption
theorem XSum.invr {α β : Type} {X : α → Ex → St → Prop} {Y : β → Ex → St → Prop} {b : β} {e : Ex} {st : St} (h : XSum X Y (.inr b) e st) : Y b e st := by
  cases h
  assumption
inductive XRet {α : Type} (rs : List ARes) (enc : α → AV) : α → Ex → St → Prop where
  | mk {a st} : FinS rs (enc a) .ret st → XRet rs enc a .ret st
inductive XRetG {α : Type} (J : α → Ex → St → Prop) : α → Ex → St → Prop where
  | mk {a st} : J a .ret st → XRetG J a .ret st
inductive LoopPost {σ ξ : Type} (I : σ → St → Prop) (X : ξ → Ex → St → Prop) : σ ⊕ ξ → Ex → St → Prop where
  | next {s st} : Leaf (I s) st → LoopPost I X (.inl s) .normal st
  | out {x e st} : e ≠ .normal → Leaf (X x e) st → LoopPost I X (.inr x) e st
inductive JP {ξ : Type} (X : ξ → Ex → St → Prop) : ξ → Ex → St → Prop where
  | mk {x e st} : Leaf (X x e) st → JP X x e st

section
variable {F : Nat → List AV → AV → Prop} {Q : Ex → St → Prop} {st : St}

theorem Run.behind {c : ACode} {Q' : Ex → St → Prop} (h : Run F c Q' st) (hq : ∀ e st', Q' e st' → ∃ st'', Ghost st' st'' ∧ Q e st'') : Run F c Q st := by
  obtain ⟨e, st', h1, h2⟩ := h
  obtain ⟨st'', h3, h4⟩ := hq _ _ h2
  exact ⟨e, st'', .behind h1 h3, h4⟩

theorem Run.joinG {c : ACode} {ξ : Type} {X : ξ → Ex → St → Prop} {x : ξ} (h : Run F c (JP X x) st) (hq : ∀ e st', X x e st' → Q e st') : Run F c Q st := by
  refine h.behind fun e st' hj => ?_
  cases hj with
  | mk hj =>
    obtain ⟨st'', h1, h2⟩ := hj
    exact ⟨st'', h1, hq _ _ h2⟩

theorem Run.iter {a : ACode} {σ ξ : Type} {b : σ → Option (σ ⊕ ξ)} {s0 : σ} {x : ξ} {I : σ → St → Prop} {X : ξ → Ex → St → Prop} (hx : Ev.iter b s0 = some x) (h0 : I s0 st)
    (hb : ∀ s st, I s st → ∀ o, b s = some o → Run F a (LoopPost I X o) st) (hq : ∀ e st', X x e st' → Q e st') : Run F (.loop a) Q st := by
  obtain ⟨n, hn⟩ := iter_some hx
  clear hx
  induction n generalizing s0 st with
  | zero => simp [iterN] at hn
  | succ n ih =>
    simp only [iterN] at hn
    split at hn
    · cases hn
    · rename_i s' hs'
      obtain ⟨e, st1, h1, h2⟩ := hb _ _ h0 _ hs'
      cases h2 with
      | next h2 =>
        obtain ⟨st2, h3, h4⟩ := h2
        obtain ⟨e', st3, h5, h6⟩ := ih h4 hn
        exact ⟨e', st3, .loopN (.behind h1 h3) h5, h6⟩
    · rename_i x' hx'
      injection hn with hn
      subst hn
      obtain ⟨e, st1, h1, h2⟩ := hb _ _ h0 _ hx'
      cases h2 with
      | out hne h2 =>
        obtain ⟨st2, h3, h4⟩ := h2
        exact ⟨e, st2, .behind (.loopX h1 hne) h3, hq _ _ h4⟩

theorem Run.cutJ {c : ACode} {J : St → Prop} (hJ : J st) (h : ∀ st, J st → Run F c Q st) : Run F c Q st := h st hJ
theorem Run.setB {c : ACode} {t : Nat} {p b : Bool} (h : st.env t = .bool p) (hp : p = b) (hk : Run F c Q ⟨upd st.env t (.bool b), st.H⟩) : Run F c Q st := by
  subst hp
  rw [← h, upd_self] at hk
  exact hk
end

section
variable {F : Nat → List AV → AV → Prop} {Q : St → Prop} {st : St}
theorem OpsR.setB {os : List AO} {t : Nat} {p b : Bool} (h : st.env t = .bool p) (hp : p = b) (hk : OpsR F os Q ⟨upd st.env t (.bool b), st.H⟩) : OpsR F os Q st := by
  subst hp
  rw [← h, upd_self] at hk
  exact hk
theorem DrawR.setB {bef : List Nat} {os : List AO} {i : Nat} {log : List (Nat × List (Nat × Bool))} {t : Nat} {p b : Bool} (h : st.env t = .bool p) (hp : p = b) (hk : DrawR F bef os i log Q ⟨upd st.env t (.bool b), st.H⟩) :
    DrawR F bef os i log Q st := by
  subst hp
  rw [← h, upd_self] at hk
  exact hk
theorem OpsR.retell {os : List AO} {t s g sz n n' : Nat} (h : st.env t = .view s g sz n) (hn : n = n') (hk : OpsR F os Q ⟨upd st.env t (.view s g sz n'), st.H⟩) : OpsR F os Q st := by
  subst hn
  rw [← h, upd_self] at hk
  exact hk
theorem DrawR.retell {bef : List Nat} {os : List AO} {i : Nat} {log : List (Nat × List (Nat × Bool))} {t s g sz n n' : Nat} (h : st.env t = .view s g sz n) (hn : n = n') (hk : DrawR F bef os i log Q ⟨upd st.env t (.view s g sz n'), st.H⟩) :
    DrawR F bef os i log Q st := by
  subst hn
  rw [← h, upd_self] at hk
  exact hk
theorem set_self {cs : List AV} {k : Nat} {x : AV} (h : cs[k]? = some x) : cs.set k x = cs := by
  obtain ⟨h1, h2⟩ := List.getElem?_eq_some_iff.1 h
  rw [← h2]
  exact List.set_getElem_self h1
theorem OpsR.retellCell {os : List AO} {b g k s g2 sz n n' : Nat} {cs cs' : List AV} (h : st.H b = (g, some (.box cs))) (hc : cs[k]? = some (.view s g2 sz n)) (hn : n = n') (he : cs.set k (.view s g2 sz n') = cs')
    (hk : OpsR F os Q ⟨st.env, upd st.H b (g, some (.box cs'))⟩) : OpsR F os Q st := by
  subst hn he
  rw [set_self hc, ← h, upd_self] at hk
  exact hk
theorem DrawR.retellCell {bef : List Nat} {os : List AO} {i : Nat} {log : List (Nat × List (Nat × Bool))} {b g k s g2 sz n n' : Nat} {cs cs' : List AV} (h : st.H b = (g, some (.box cs))) (hc : cs[k]? = some (.view s g2 sz n)) (hn : n = n')
    (he : cs.set k (.view s g2 sz n') = cs') (hk : DrawR F bef os i log Q ⟨st.env, upd st.H b (g, some (.box cs'))⟩) : DrawR F bef os i log Q st := by
  subst hn he
  rw [set_self hc, ← h, upd_self] at hk
  exact hk
theorem lenPut {α : Type} (c : α → List AV) {l l' : List α} {j : Nat} {a : α} (h : j < l.length ∧ l' = l.set j a) : (l.map c).length = (l'.map c).length := by rw [h.2]; simp
theorem lenEq {α : Type} (c : α → List AV) {l l' : List α} (h : l'.length = l.length) : (l.map c).length = (l'.map c).length := by simp [h]
theorem lenSet {α : Type} (c : α → List AV) (l : List α) (i : Nat) (a : α) : (l.map c).length = ((l.set i a).map c).length := by simp
theorem lenCpy {α : Type} (c : α → List AV) (l m : List α) : (l.map c).length = ((cpy l m).map c).length := by simp [cpy]; omega
theorem OpsR.cutJ {os : List AO} {J : St → Prop} (hJ : J st) (h : ∀ st, J st → OpsR F os Q st) : OpsR F os Q st := h st hJ
theorem DrawR.cutJ {bef : List Nat} {os : List AO} {i : Nat} {log : List (Nat × List (Nat × Bool))} {J : St → Prop} (hJ : J st) (h : ∀ st, J st → DrawR F bef os i log Q st) : DrawR F bef os i log Q st := h st hJ
theorem RunOps_append {J : St → Prop} : ∀ {os ps : List AO} {st : St}, RunOps F os J st → (∀ st, J st → RunOps F ps Q st) → RunOps F (os ++ ps) Q st
  | [], ps, st, h, hk => hk _ h
  | o :: os, ps, st, h, hk => by
    simp only [RunOps, List.cons_append] at h ⊢
    exact stepG_mono h fun st' h' => RunOps_append h' hk
theorem OpsR.splitAt {os : List AO} (n : Nat) {J : St → Prop} (h : OpsR F (os.take n) J st) (hk : ∀ st, J st → OpsR F (os.drop n) Q st) : OpsR F os Q st := by
  refine ⟨?_⟩
  have := RunOps_append (F := F) (Q := Q) h.out fun st hj => (hk st hj).out
  rwa [List.take_append_drop] at this
end

/-! ### a function -/
theorem FnN.sl_of_own {P : Program} {f t sz : Nat} {args : List AV} {es : List (List AV)} (h : FnN P f args (.own t sz es)) : FnN P f args (.sl es) := by
  refine ⟨h.1, fun M w vs hM ha => (h.2 M w vs hM ha).mono ?_⟩
  rintro e w' ⟨v, he, hb, hr⟩
  refine ⟨v, he, hb, ?_⟩
  simp only [RepRes] at hr
  obtain ⟨hal, hr⟩ := hr
  simp only [RepRes, RepV]
  rcases hr with ⟨h1, h2⟩ | ⟨b, cap, cur, h1, h2, h3, h4, h5, h6, h7⟩
  · exact .inl ⟨h1, by simp [h2]⟩
  · have hbl : b < w'.heap.size := by
      rcases Nat.lt_or_ge b w'.heap.size with h' | h'
      · exact h'
      · rw [Array.getElem?_eq_none h'] at h5; cases h5
    refine .inr ⟨b, 0, cap, h1, h2, hbl, fun hm => ?_, ?_⟩
    · exact Nat.lt_irrefl _ (Nat.lt_of_lt_of_le (hM b hm) h4)
    · refine RepE.mono (c := px (fun x => M x ∨ x = b) w') (c' := (px M w').pers) ⟨Nat.le_refl _, fun i _ hm => ⟨rfl, fun hx => hm (.inl hx)⟩, fun i cur e h => ⟨cur, h, rfl⟩, fun _ _ _ => rfl, fun _ => Nat.le_refl _⟩ es b 0 rfl h7

theorem FnN.of {P : Program} {f : Nat} {args : List AV} {r : AV} (h : Fn P f args r) (hio : isIO args = false) : FnN P f args r := by
  unfold Fn at h
  split at h
  · simp [isIO] at hio
  · exact h

theorem Fn.ofS {P : Program} {f : FuncId} {fn : Func} {n : Nat} {ac : ACode} {rs : List ARes} (hm : P.follows .mixedOrders = true) (hf : P.funcs[f]? = some fn) (hk : told P fn = some (n, ac, rs))
    {args : List AV} {r : AV} (hl : args.length ≤ n) (h : Run (Fn P) ac (FinS rs r) (initSt args)) (hio : isIO args = false := by rfl) : Fn P f args r := by
  obtain ⟨e, st', h1, h2⟩ := h
  cases h2 with
  | fin h2 => exact Fn.of hm hf hk hl ⟨e, st', h1, h2⟩ hio
  | own h2 => exact Fn.ofN (FnN.sl_of_own (FnN.of (Fn.of hm hf hk hl ⟨e, st', h1, h2⟩ hio) hio)) hio

/-- A slice is nil, or it is not. -/
theorem Fn.slSplit {P : Program} {f t sz : Nat} {es : List (List AV)} (h0 : es = [] → Fn P f [.nil] (.own t sz [])) (h1 : Fn P f [.slN es] (.own t sz es)) : Fn P f [.sl es] (.own t sz es) := by
  have h1' := FnN.of h1 rfl
  refine Fn.ofN ⟨h1'.1, fun M w vs hM hr => ?_⟩ rfl
  obtain ⟨v, vs', rfl, hv, hvs⟩ : ∃ v vs', vs = v :: vs' ∧ RepV (px M w) (.sl es) v ∧ RepT (px M w) [] vs' := by simpa only [RepT] using hr
  simp only [RepT] at hvs
  subst hvs
  simp only [RepV] at hv
  rcases hv with ⟨hv, hz⟩ | hv
  · have he := List.eq_nil_of_length_eq_zero hz
    subst he
    exact (FnN.of (h0 rfl) rfl).2 M w [v] hM (by simp only [RepT, RepV]; exact ⟨v, [], rfl, hv, rfl⟩)
  · exact h1'.2 M w [v] hM (by simp only [RepT, RepV]; exact ⟨v, [], rfl, hv, rfl⟩)

/-! ### a function that writes a part of its caller's slice -/
structure EndIO (rs : List ARes) (t sz S : Nat) (r0 : AV) (es' : List (List AV)) (e : Ex) (st : St) : Prop where
  ok : e = .ret ∨ e = .normal
  heap : st.H S = (1, some (.arr t sz es'))
  res : (rs = [] ∧ r0 = .tup []) ∨ ∃ k, rs = [.tmp k] ∧ st.env k = r0 ∧ isLit r0 = true

def initIO (t sz S off n : Nat) (es : List (List AV)) (xs : List AV) : St := ⟨fun i => ((AV.sub S 1 sz off n :: xs)[i]?).getD .junk, fun s => if s = S then (1, some (.arr t sz es)) else (0, none)⟩

theorem lit_px {c c' : Cx} {x : AV} {v : Value} (hx : isLit x = true) (h : RepV c x v) : RepV c' x v := by
  cases x <;> simp only [isLit] at hx <;> first | (simp only [RepV] at h ⊢; exact h) | cases hx

theorem Fn.ofIO {P : Program} {f : FuncId} {fn : Func} {nn : Nat} {ac : ACode} {rs : List ARes} (hm : P.follows .mixedOrders = true) (hf : P.funcs[f]? = some fn) (hk : told P fn = some (nn, ac, rs))
    {t sz off n : Nat} (S : Nat) {es es' : List (List AV)} {xs : List AV} {r0 : AV} (hl : xs.length + 1 ≤ nn) (h : Run (Fn P) ac (EndIO rs t sz S r0 es') (initIO t sz S off n es xs)) :
    Fn P f (.tup [.own t sz es, .ptr off n 0] :: xs) (.tup [r0, .own t sz es']) := by
  unfold told at hk
  split at hk
  · cases hk
  rename_i hn
  simp only [Option.bind_eq_some_iff, Option.map_eq_some_iff, Prod.mk.injEq] at hk
  obtain ⟨code, hb, ac', hc, rs', hr, rfl, rfl, rfl⟩ := hk
  refine ⟨⟨fn, hf, by simpa using hn, by rw [hb]; rfl⟩, fun M w vs b cap cur hM hMb hargs hal hrow hsz hE hfit hcap hcm => ?_⟩
  obtain ⟨e, st', hbig, hend⟩ := h
  have hvl := (RepT_iff.1 hargs).1
  have hblt : b < w.heap.size := hM b hMb
  refine calls_of_wp hf hb (wp_mono ((big_sound (X := fun k => M k ∧ k ≠ b) (n := fn.ntmps) (base := ⟨fun k => w.heap.size ≤ k ∨ k = b, fun s g b' => s = S ∧ g = 1 ∧ b' = b, cur.size⟩) (w0 := w) hm hbig).1 code hc _ _ (fun s g => if s = S ∧ g = 1 then some b else none) ?_) ?_)
  · have hMM : ∀ k, (cx (fun k => M k ∧ k ≠ b) (initIO t sz S off n es xs).H w fun s g => if s = S ∧ g = 1 then some b else none).M k → M k := by
      rintro k (h1 | ⟨s, g, blk, h1, _, h2⟩)
      · exact h1.1
      · simp only at h2
        split at h2
        · injection h2 with h2
          subst h2
          exact hMb
        · cases h2
    have hle : (px M w).Le (cx (fun k => M k ∧ k ≠ b) (initIO t sz S off n es xs).H w fun s g => if s = S ∧ g = 1 then some b else none) :=
      ⟨Nat.le_refl _, fun k _ hm => ⟨rfl, fun h => hm (hMM k h)⟩, fun k cu e h => ⟨cu, h, rfl⟩, fun s g hg => absurd hg.1 (by have := hg.2; simp only [px] at this; omega), fun _ => Nat.zero_le _⟩
    refine ⟨rfl, by simp; omega, ⟨BelowB.refl _ _, ?_, fun k hk => .inl hk, ?_, ?_, ?_⟩, fun i => ?_⟩
    · rintro k ⟨h1, h2⟩ (h3 | h3)
      · exact Nat.lt_irrefl _ (Nat.lt_of_lt_of_le (hM k h1) h3)
      · exact h2 h3
    · intro s g blk h1
      simp only [initIO] at h1
      split at h1
      · rename_i hs
        injection h1 with h2 h3
        injection h3 with h3
        subst hs h2 h3
        simp only [and_self, if_true]
        exact ⟨hal, .inr rfl, cur, hrow, hsz, RepE.mono hle.pers es b 0 rfl hE⟩
      · cases h1
    · intro s s' g g' b1 b2 k h1 _ h2 _ _ _
      simp only [initIO] at h1 h2
      split at h1
      · split at h2
        · rename_i h3 h4; rw [h3, h4]
        · cases h2
      · cases h1
    · rintro s g b' ⟨rfl, rfl, rfl⟩
      exact ⟨Nat.one_pos, by simp [initIO], by simp, cur, t, hrow, rfl⟩
    · show RepV _ (((AV.sub S 1 sz off n :: xs)[i]?).getD .junk) _
      cases i with
      | zero =>
        simp only [List.getElem?_cons_zero, Option.getD_some, RepV]
        refine ⟨⟨Nat.one_pos, by simp [cx, initIO]⟩, b, cap, cur, t, by simp [cx], ?_, hcap, hcm, hrow⟩
        rw [Array.getD_eq_getD_getElem?, Array.getElem?_append_left (by simp)]
        simp
      | succ i =>
        rw [List.getElem?_cons_succ]
        cases hi : xs[i]? with
        | none => simp only [Option.getD_none, RepV]
        | some x =>
          simp only [Option.getD_some]
          obtain ⟨v, hv, hx⟩ := (RepT_iff.1 hargs).2 i x hi
          have hlt : i < vs.length := (List.getElem?_eq_some_iff.1 hv).1
          have hget : (((Value.slice (some ⟨b, off * sz, none⟩) n cap :: vs).toArray) ++ Array.replicate (fn.ntmps - ((Value.slice (some ⟨b, off * sz, none⟩) n cap :: vs).toArray).size) undef).getD (i + 1) undef = v := by
            rw [Array.getD_eq_getD_getElem?, Array.getElem?_append_left (by simp; omega)]
            simp [hv]
          rw [hget]
          exact RepV.mono hle _ _ hx
  · rintro x a' w' ⟨rfl, β', hs⟩
    obtain ⟨hok, hheap, hres⟩ := hend
    have fin : ∃ v, (results fn a'.tmps).run P w' = .ok v w' ∧ ∀ c, RepV c r0 v := by
      rcases hres with ⟨rfl, rfl⟩ | ⟨k, rfl, hk, hlit⟩
      · have hrl : fn.results.toList = [] := by
          have h2 := (mapM_get hr).1
          exact List.eq_nil_of_length_eq_zero (by simpa using h2.symm)
        refine ⟨.tuple #[], ?_, fun c => by simp [RepV, RepT]⟩
        have := results_run (P := P) fn a'.tmps w' (vs := []) (by rw [hrl]; rfl)
        simpa using this
      · have hone : ∃ rv, fn.results.toList = [rv] ∧ convRes P rv = some (.tmp k) := by
          cases hrl : fn.results.toList with
          | nil => rw [hrl] at hr; simp at hr
          | cons rv rest =>
            rw [hrl] at hr
            simp only [List.mapM_cons, Option.bind_eq_bind, Option.pure_def, Option.bind_eq_some_iff, Option.some.injEq] at hr
            obtain ⟨r1, h1, rs', h2, h3⟩ := hr
            injection h3 with h3 h4
            subst h3 h4
            cases rest with
            | nil => exact ⟨rv, rfl, h1⟩
            | cons _ _ =>
              have := (mapM_get h2).1
              simp at this
        obtain ⟨rv, hrl, hcr⟩ := hone
        obtain ⟨v, v', hK, hrun, hrep⟩ := resOne_sound hs hcr (K := fun v => v = r0) hk
        subst hK
        refine ⟨v', ?_, fun c => lit_px hlit hrep⟩
        have := results_run (P := P) fn a'.tmps w' (vs := [v']) (by rw [hrl]; simp only [List.mapM_cons, List.mapM_nil, Sem.run_bind, hrun, Result.andThen_ok, Sem.run_pure])
        simpa using this
    obtain ⟨v, hrun, hrep⟩ := fin
    have done : bodyPost P fn (fun e w'' => ∃ v r1 es2, AV.tup [r0, .own t sz es'] = .tup [r1, .own t sz es2] ∧ e = .returned v ∧ BelowB (fun k => w.heap.size ≤ k ∨ k = b) w w'' ∧ AllLen sz es2 ∧
        (∃ cur', w''.heap[b]? = some (.cells cur' t (0, 0)) ∧ cur'.size = cur.size ∧ es2.length * sz ≤ cur.size ∧ RepE (px M w'') es2 b 0) ∧ RepV (px M w'') r1 v) .normal a' w' := by
      refine ⟨hs.defers, v, hrun, v, r0, es', rfl, rfl, hs.ok.below, ?_⟩
      obtain ⟨_, _, hβ, cu, e5, h5, h6⟩ := hs.ok.keep S 1 b ⟨rfl, rfl, rfl⟩
      obtain ⟨hal2, hblk⟩ := hs.ok.hp S 1 _ hheap
      rw [hβ] at hblk
      obtain ⟨_, cur', hcur', hfit2, hE2⟩ := hblk
      have hcur2 : w'.heap[b]? = some (.cells cur' t (0, 0)) := hcur'
      have hcs : cur'.size = cur.size := by
        rw [hcur2] at h5
        injection h5 with h5
        injection h5 with h7 h8
        subst h7
        exact h6
      refine ⟨hal2, ⟨cur', hcur2, hcs, by rw [← hcs]; exact hfit2, ?_⟩, hrep _⟩
      refine RepE.mono (c := (cx (fun k => M k ∧ k ≠ b) st'.H w' β').pers) (c' := px M w') ⟨Nat.le_refl _, fun k _ hm => ⟨rfl, fun h => hm ?_⟩, fun k cu e h => ⟨cu, h, rfl⟩, fun _ _ _ => rfl, fun _ => Nat.le_refl _⟩ es' b 0 rfl hE2
      show (cx (fun k => M k ∧ k ≠ b) st'.H w' β').M k
      by_cases hk : k = b
      · subst hk
        exact .inr ⟨S, 1, _, hheap, trivial, hβ⟩
      · exact .inl ⟨h, hk⟩
    rcases hok with rfl | rfl
    · exact done
    · exact done

namespace End
variable {e : Nat → AV} {H : Heap} {t : Nat} {v r : AV}
theorem cellOwn {s g k s2 g2 sz n ty : Nat} {cs : List AV} {q : Option Nat} {es : List (List AV)} (h : e t = .ptr s g k) (hH : H s = (g, some (.box cs))) (ht : takeAt q cs k = some (.view s2 g2 sz n)) (hH2 : H s2 = (g2, some (.arr ty sz es))) (hn : es.length = n) :
    Fin [.cell t q] (.own ty sz es) .ret ⟨e, H⟩ := by
  refine ⟨?_⟩
  simp only [Ends, resQ, resOne]
  rw [h]
  simp only [loadQ, hH, ht, someQ]
  refine ⟨trivial, ?_⟩
  simp only [handQ, hH2]
  exact ⟨trivial, trivial, hn, trivial⟩
theorem frzView {s g sz n ty : Nat} {es : List (List AV)} (h : e t = .view s g sz n) (hH : H s = (g, some (.frz ty sz es))) (hn : es.length = n) : Fin [.tmp t] (.sl es) .ret ⟨e, H⟩ := by
  refine ⟨?_⟩
  simp only [Ends, resQ, resOne]
  rw [h]
  simp only [handQ, hH]
  exact ⟨trivial, trivial, hn, trivial⟩
theorem cellFrz {s g k s2 g2 sz n ty : Nat} {cs : List AV} {q : Option Nat} {es : List (List AV)} (h : e t = .ptr s g k) (hH : H s = (g, some (.box cs))) (ht : takeAt q cs k = some (.view s2 g2 sz n)) (hH2 : H s2 = (g2, some (.frz ty sz es))) (hn : es.length = n) :
    Fin [.cell t q] (.sl es) .ret ⟨e, H⟩ := by
  refine ⟨?_⟩
  simp only [Ends, resQ, resOne]
  rw [h]
  simp only [loadQ, hH, ht, someQ]
  refine ⟨trivial, ?_⟩
  simp only [handQ, hH2]
  exact ⟨trivial, trivial, hn, trivial⟩
end End

/-! ### steps on contents that are told by plain lists -/
namespace S
variable {F : Nat → List AV → AV → Prop} {e : Nat → AV} {H : Heap} {K : St → Prop} {d : Nat} {x y z : Opd} {α : Type} {c : α → List AV} {l l' m : List α} {a a' : α} {i j : Int} {k k' k2 : IntKind}

theorem iaddrLM {sz : Nat} (hx : V e H x (.sl (l.map c))) (hy : V e H y (.int k i)) (hg : Ev.get l i = some a) (hc : ∀ a, (c a).length = sz) (hk : K ⟨upd e d (.pcell (c a)), H⟩) : StepR F ⟨some d, .iaddr sz, [x, y], none⟩ ⟨e, H⟩ K :=
  S.iaddrL hx hy (get_in hg).1 rfl (allLen_map hc l) (by rw [List.getElem?_map, get_at hg]; rfl) hk
theorem iaddrVM {sz s g : Nat} (hx : V e H x (.view s g sz (l.map c).length)) (hy : V e H y (.int k i)) (hg : 0 ≤ i ∧ i < l.length) (hk : K ⟨upd e d (.eptr s g sz i.toNat 0), H⟩) : StepR F ⟨some d, .iaddr sz, [x, y], none⟩ ⟨e, H⟩ K :=
  S.iaddrV hx hy hg.1 rfl (by rw [List.length_map]; exact hg.2) hk
theorem loadEM {q : Option Nat} {s g sz n o t : Nat} {v : AV} (hx : V e H x (.eptr s g sz n o)) (hH : H s = (g, some (.arr t sz (l.map c)))) (hg : l[n]? = some a) (ht : takeAt q (c a) o = some v) (hk : K ⟨upd e d v, H⟩) :
    StepR F ⟨some d, .load q, [x], none⟩ ⟨e, H⟩ K := S.loadE hx hH (by rw [List.getElem?_map, hg]; rfl) ht hk
theorem loadFM {q : Option Nat} {s g sz n o t : Nat} {v : AV} (hx : V e H x (.eptr s g sz n o)) (hH : H s = (g, some (.frz t sz (l.map c)))) (hg : l[n]? = some a) (ht : takeAt q (c a) o = some v) (hk : K ⟨upd e d v, H⟩) :
    StepR F ⟨some d, .load q, [x], none⟩ ⟨e, H⟩ K := S.loadF hx hH (by rw [List.getElem?_map, hg]; rfl) ht hk
theorem putM {n s g sz t j : Nat} {cv : List AV} {v : AV} (hx : V e H x (.eptr s g sz j 0)) (hy : V e H y v) (hH : H s = (g, some (.arr t sz (l.map c)))) (hc : (cellsOf v).map denil = cv) (hl : cv.length = n) (ha : cv.all Pers = true)
    (hle : 0 + n ≤ sz) (hp : j < l.length ∧ l' = l.set j a) (hr : ∀ u, setCells (c u) 0 cv = c a) (hk : K ⟨e, upd H s (g, some (.arr t sz (l'.map c)))⟩) : StepR F ⟨none, .store n, [x, y], none⟩ ⟨e, H⟩ K := by
  obtain ⟨hlt, rfl⟩ := hp
  refine S.storeE (u := c l[j]) hx hy hH hc hl ha hle (by rw [List.getElem?_map, List.getElem?_eq_getElem hlt]; rfl) ?_ hk
  rw [hr, List.map_set]
theorem setM {n s g sz t o j : Nat} {cv : List AV} {v : AV} (hx : V e H x (.eptr s g sz j o)) (hy : V e H y v) (hH : H s = (g, some (.arr t sz (l.map c)))) (hc : (cellsOf v).map denil = cv) (hl : cv.length = n) (ha : cv.all Pers = true)
    (hle : o + n ≤ sz) (hg : l[j]? = some a) (hr : setCells (c a) o cv = c a') (hk : K ⟨e, upd H s (g, some (.arr t sz ((l.set j a').map c)))⟩) : StepR F ⟨none, .store n, [x, y], none⟩ ⟨e, H⟩ K :=
  S.storeE (u := c a) hx hy hH hc hl ha hle (by rw [List.getElem?_map, hg]; rfl) (by rw [hr, List.map_set]) hk
theorem iaddrSubM {sz s g off n : Nat} (hx : V e H x (.sub s g sz off n)) (hy : V e H y (.int k i)) (hg : 0 ≤ i ∧ i < n) (hk : K ⟨upd e d (.eptr s g sz (off + i.toNat) 0), H⟩) : StepR F ⟨some d, .iaddr sz, [x, y], none⟩ ⟨e, H⟩ K :=
  S.iaddrSub hx hy hg.1 rfl hg.2 hk
theorem sliceSubM {s g sz : Nat} {lo hi : Int} (hx : V e H x (.view s g sz (l.map c).length)) (hy : V e H y (.int k lo)) (hz : V e H z (.int k' hi)) (hp : 0 ≤ lo ∧ lo < hi ∧ hi ≤ l.length) (hk : K ⟨upd e d (.sub s g sz lo.toNat (hi.toNat - lo.toNat)), H⟩) :
    StepR F ⟨some d, .sliceL sz true true, [x, y, z], none⟩ ⟨e, H⟩ K := by
  refine S.sliceSub (l := lo.toNat) (m := hi.toNat) hx ?_ (by omega) hk
  simp only [List.map]
  rw [hy, hz]
  exact ⟨hp.1, by omega, by rw [List.length_map]; exact hp.2.2, rfl, rfl⟩
theorem subFit {lo hi : Int} (hp : 0 ≤ lo ∧ lo < hi ∧ hi ≤ l.length) : lo.toNat + (hi.toNat - lo.toNat) ≤ (l.map c).length := by
  rw [List.length_map]
  omega
theorem mkSlM {t sz bytes g : Nat} {cz : List AV} {z : α} {n q : Int} (hx : V e H x (.int k n)) (hy : V e H y (.int k' q)) (hm : Ev.mk bytes n q z = some l) (hz : c z = cz) (hg : (H d).1 + 1 = g)
    (hk : K ⟨upd e d (.view d g sz (l.map c).length), upd H d (g, some (.arr t sz (l.map c)))⟩) : StepR F ⟨some d, .mkSl t sz bytes cz, [x, y], none⟩ ⟨e, H⟩ K := by
  unfold Ev.mk at hm
  split at hm
  · rename_i h
    injection hm with hm
    subst hm hz
    refine S.mkSl hx hy h.1 h.2.1 h.2.2.1 h.2.2.2 hg rfl rfl ?_
    simpa using hk
  · cases hm
theorem buildSlM {t sz : Nat} {xs : List Opd} {ys : List AV} {us : Upds} {g : Nat} (hf : freezeALQ H (xs.map (St.ev ⟨e, H⟩)) fun a b => a = ys ∧ b = us)
    (ha : (ys.all fun x => (cellsOf x).length == sz && (cellsOf x).all cellish) = true) (hg : (H d).1 + 1 = g) (he : ys.map cellsOf = l.map c) (hk : K ⟨upd e d (.view d g sz (l.map c).length), updH H (us ++ [(d, g, some (.arr t sz (l.map c)))])⟩) :
    StepR F ⟨some d, .buildSl t sz, xs, none⟩ ⟨e, H⟩ K :=
  S.buildSl hf ha hg (by have := congrArg List.length he; rwa [List.length_map] at this) he hk

section sliceS
variable {s r : Str} {lo hi : Int}
theorem sub_s {s r : Str} {a b : Int} (h : Ev.sub s a b = some r) : (0 ≤ a ∧ a ≤ b ∧ b ≤ ((bs s).size : Int)) ∧ (bs s).extract a.toNat b.toNat = bs r := by
  unfold Ev.sub at h
  split at h
  · rename_i h1
    injection h with h
    subst h
    rw [bs_size, bs_extract]
    exact ⟨h1, rfl⟩
  · cases h
theorem sliceSTT (hx : V e H x (.str (bs s))) (hy : V e H y (.int k lo)) (hz : V e H z (.int k' hi)) (h : Ev.sub s lo hi = some r) (hk : K ⟨upd e d (.str (bs r)), H⟩) : StepR F ⟨some d, .sliceS true true, [x, y, z], none⟩ ⟨e, H⟩ K := by
  obtain ⟨h1, h2⟩ := sub_s h
  refine S.sliceS hx ?_ h2 hk
  simp only [List.map]
  rw [hy, hz]
  exact ⟨h1.1, h1.2.1, h1.2.2, rfl, rfl⟩
theorem sliceSTF (hx : V e H x (.str (bs s))) (hy : V e H y (.int k lo)) (h : Ev.sub s lo (s.length : Int) = some r) (hk : K ⟨upd e d (.str (bs r)), H⟩) : StepR F ⟨some d, .sliceS true false, [x, y], none⟩ ⟨e, H⟩ K := by
  obtain ⟨h1, h2⟩ := sub_s h
  refine S.sliceS hx ?_ h2 hk
  simp only [List.map]
  rw [hy]
  exact ⟨h1.1, by rw [bs_size]; exact h1.2.1, Int.le_refl _, rfl, by rw [bs_size]⟩
theorem sliceSFT (hx : V e H x (.str (bs s))) (hy : V e H y (.int k hi)) (h : Ev.sub s 0 hi = some r) (hk : K ⟨upd e d (.str (bs r)), H⟩) : StepR F ⟨some d, .sliceS false true, [x, y], none⟩ ⟨e, H⟩ K := by
  obtain ⟨h1, h2⟩ := sub_s h
  refine S.sliceS hx ?_ h2 hk
  simp only [List.map]
  rw [hy]
  exact ⟨h1.1, h1.2.1, h1.2.2, rfl, rfl⟩
end sliceS
section sliceL
variable {v : AV} {us : Upds} {lo hi : Int} {sz : Nat}
theorem sub_l {a b : Int} (h : Ev.sub l a b = some m) : (0 ≤ a ∧ a ≤ b ∧ b ≤ ((l.map c).length : Int)) ∧ ((l.map c).take b.toNat).drop a.toNat = m.map c := by
  unfold Ev.sub at h
  split at h
  · rename_i h1
    injection h with h
    subst h
    rw [List.length_map, ← List.map_take, ← List.map_drop]
    exact ⟨h1, rfl⟩
  · cases h
theorem sliceLTT (hx : V e H x v) (hf : freezeQ H v fun a b => a = .sl (l.map c) ∧ b = us) (hc : ∀ a, (c a).length = sz) (hy : V e H y (.int k lo)) (hz : V e H z (.int k' hi)) (h : Ev.sub l lo hi = some m) (hk : K ⟨upd e d (.sl (m.map c)), updH H us⟩) :
    StepR F ⟨some d, .sliceL sz true true, [x, y, z], none⟩ ⟨e, H⟩ K := by
  obtain ⟨h1, h2⟩ := sub_l (c := c) h
  refine S.sliceL hx hf (allLen_map hc l) ?_ h2 hk
  simp only [List.map]
  rw [hy, hz]
  exact ⟨h1.1, h1.2.1, h1.2.2, rfl, rfl⟩
theorem sliceLTF (hx : V e H x v) (hf : freezeQ H v fun a b => a = .sl (l.map c) ∧ b = us) (hc : ∀ a, (c a).length = sz) (hy : V e H y (.int k lo)) (h : Ev.sub l lo (l.length : Int) = some m) (hk : K ⟨upd e d (.sl (m.map c)), updH H us⟩) :
    StepR F ⟨some d, .sliceL sz true false, [x, y], none⟩ ⟨e, H⟩ K := by
  obtain ⟨h1, h2⟩ := sub_l (c := c) h
  refine S.sliceL hx hf (allLen_map hc l) ?_ h2 hk
  simp only [List.map]
  rw [hy]
  exact ⟨h1.1, by rw [List.length_map]; exact h1.2.1, Int.le_refl _, rfl, by rw [List.length_map]⟩
theorem sliceLFT (hx : V e H x v) (hf : freezeQ H v fun a b => a = .sl (l.map c) ∧ b = us) (hc : ∀ a, (c a).length = sz) (hy : V e H y (.int k hi)) (h : Ev.sub l 0 hi = some m) (hk : K ⟨upd e d (.sl (m.map c)), updH H us⟩) :
    StepR F ⟨some d, .sliceL sz false true, [x, y], none⟩ ⟨e, H⟩ K := by
  obtain ⟨h1, h2⟩ := sub_l (c := c) h
  refine S.sliceL hx hf (allLen_map hc l) ?_ h2 hk
  simp only [List.map]
  rw [hy]
  exact ⟨h1.1, h1.2.1, h1.2.2, rfl, rfl⟩
theorem sliceLFF (hx : V e H x v) (hf : freezeQ H v fun a b => a = .sl (l.map c) ∧ b = us) (hc : ∀ a, (c a).length = sz) (h : Ev.sub l 0 (l.length : Int) = some m) (hk : K ⟨upd e d (.sl (m.map c)), updH H us⟩) :
    StepR F ⟨some d, .sliceL sz false false, [x], none⟩ ⟨e, H⟩ K := by
  obtain ⟨h1, h2⟩ := sub_l (c := c) h
  refine S.sliceL hx hf (allLen_map hc l) ?_ h2 hk
  simp only [List.map]
  exact ⟨Int.le_refl _, by rw [List.length_map]; exact h1.2.1, Int.le_refl _, rfl, by rw [List.length_map]⟩
end sliceL

theorem indexM {s : Str} {b : UInt8} (hx : V e H x (.str (bs s))) (hy : V e H y (.int k i)) (hg : Ev.get s i = some b) (hk : K ⟨upd e d (.int .u8 (Int.ofNat b.toNat)), H⟩) : StepR F ⟨some d, .index, [x, y], none⟩ ⟨e, H⟩ K :=
  S.index hx hy (get_in hg).1 rfl (by rw [bs_get]; exact get_at hg) rfl hk
theorem lenSM {s : Str} (hx : V e H x (.str (bs s))) (hk : K ⟨upd e d (.int .i64 (s.length : Int)), H⟩) : StepR F ⟨some d, .lenS, [x], none⟩ ⟨e, H⟩ K := S.lenS hx (by rw [bs_size]) hk
theorem lenLM (hx : V e H x (.sl (l.map c))) (hk : K ⟨upd e d (.int .i64 (l.length : Int)), H⟩) : StepR F ⟨some d, .lenL, [x], none⟩ ⟨e, H⟩ K := S.lenL hx (by rw [List.length_map]) hk
theorem lenVM {s g sz : Nat} (hx : V e H x (.view s g sz (l.map c).length)) (hk : K ⟨upd e d (.int .i64 (l.length : Int)), H⟩) : StepR F ⟨some d, .lenL, [x], none⟩ ⟨e, H⟩ K := by
  refine S.lenV hx ?_
  rw [List.length_map]
  exact hk
section str
variable {a b r : Str} (hx : V e H x (.str (bs a))) (hy : V e H y (.str (bs b)))
include hx hy
theorem addSM (h : cat a b = some r) (hk : K ⟨upd e d (.str (bs r)), H⟩) : StepR F ⟨some d, .bin .add, [x, y], none⟩ ⟨e, H⟩ K := by
  unfold cat at h
  split at h
  · rename_i h1
    injection h with h
    subst h
    exact S.addS hx hy (by rw [bs_size, bs_size]; exact h1) (bs_append a b) hk
  · cases h
theorem eqlSM (hk : K ⟨upd e d (.bool (a == b)), H⟩) : StepR F ⟨some d, .bin .eql, [x, y], none⟩ ⟨e, H⟩ K := S.eqlS hx hy (by rw [bs_toList, bs_toList]) hk
theorem neqSM (hk : K ⟨upd e d (.bool (!(a == b))), H⟩) : StepR F ⟨some d, .bin .neq, [x, y], none⟩ ⟨e, H⟩ K := S.neqS hx hy (by rw [bs_toList, bs_toList]) hk
theorem lssSM (hk : K ⟨upd e d (.bool (Op.bytesLess a b)), H⟩) : StepR F ⟨some d, .bin .lss, [x, y], none⟩ ⟨e, H⟩ K := S.lssS hx hy (by rw [bs_toList, bs_toList]) hk
end str
theorem b2sM {v : AV} {l : List Int} (hx : V e H x v) (hr : readQ H v fun a => a = l.map c_u8) (hk : K ⟨upd e d (.str (bs (ofCodes l))), H⟩) : StepR F ⟨some d, .b2s, [x], none⟩ ⟨e, H⟩ K := S.b2s hx hr (bytesOf_map l) rfl hk
theorem s2bM {s : Str} (hx : V e H x (.str (bs s))) (hk : K ⟨upd e d (.sl ((codes s).map c_u8)), H⟩) : StepR F ⟨some d, .s2b, [x], none⟩ ⟨e, H⟩ K := S.s2b hx (by simp [esOfBytes, codes, bs]) hk
theorem appNM {t sz bytes g : Nat} {v : AV} (hx : V e H x .nil) (hy : V e H y v) (hr : readQ H v fun a => a = m.map c) (hc : ∀ a, (c a).length = sz) (h : Ev.app bytes [] m = some l') (hg : (H d).1 + 1 = g)
    (hk : K ⟨upd e d (.view d g sz (l'.map c).length), upd H d (g, some (.arr t sz (l'.map c)))⟩) : StepR F ⟨some d, .app t sz bytes, [x, y], none⟩ ⟨e, H⟩ K := by
  unfold Ev.app at h
  split at h
  · rename_i h1
    injection h with h
    subst h
    simp only [List.length_nil, Nat.zero_add] at h1
    exact S.appN hx hy hr (allLen_map hc m) (by rw [List.length_map]; exact h1.1) (by rw [List.length_map]; exact h1.2) hg rfl hk
  · cases h
theorem appVM {t sz bytes s g : Nat} {v : AV} (hx : V e H x (.view s g sz (l.map c).length)) (hy : V e H y v) (hH : H s = (g, some (.arr t sz (l.map c)))) (hr : readQ H v fun a => a = m.map c) (hc : ∀ a, (c a).length = sz) (h : Ev.app bytes l m = some l')
    (hk : K ⟨upd e d (.view s (g + 1) sz (l'.map c).length), upd H s (g + 1, some (.arr t sz (l'.map c)))⟩) : StepR F ⟨some d, .app t sz bytes, [x, y], none⟩ ⟨e, H⟩ K := by
  unfold Ev.app at h
  split at h
  · rename_i h1
    injection h with h
    subst h
    exact S.appV hx hy hH rfl hr (allLen_map hc m) (by simp) (by simpa using h1.1) (by simpa using h1.2) (by simp) hk
  · cases h
theorem copyM {t sz s g : Nat} {v : AV} (hx : V e H x (.view s g sz (l.map c).length)) (hy : V e H y v) (hH : H s = (g, some (.arr t sz (l.map c)))) (hr : readQ H v fun a => a = m.map c) (hc : ∀ a, (c a).length = sz)
    (hk : K ⟨upd e d (.int .i64 (cpn l m)), upd H s (g, some (.arr t sz ((cpy l m).map c)))⟩) : StepR F ⟨some d, .copy sz, [x, y], none⟩ ⟨e, H⟩ K := by
  refine S.copy hx hy hH rfl hr (allLen_map hc m) rfl ?_
  simpa [cpy, cpn] using hk
theorem copyUM {t sz s g : Nat} {v : AV} (hx : V e H x (.view s g sz (l.map c).length)) (hy : V e H y v) (hH : H s = (g, some (.arr t sz (l.map c)))) (hr : readQ H v fun a => a = m.map c) (hc : ∀ a, (c a).length = sz)
    (hk : K ⟨e, upd H s (g, some (.arr t sz ((cpy l m).map c)))⟩) : StepR F ⟨none, .copy sz, [x, y], none⟩ ⟨e, H⟩ K := by
  refine S.copyU hx hy hH rfl hr (allLen_map hc m) rfl ?_
  simpa [cpy] using hk
end S
end Go.Ev
