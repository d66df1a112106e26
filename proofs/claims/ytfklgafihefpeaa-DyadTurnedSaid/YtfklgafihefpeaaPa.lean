/- Plain words: what printed functions answer. Tools: loops, lists of limbs. -/
import Derived.Test.YtfklgafihefpeaaSh
import Derived.Test.YtfklgafihefpeaaNm
import Derived.Test.YtfklgafihefpeaaBits
import Derived.Test.YtfklgafihefpeaaLen
set_option linter.unusedVariables false
set_option linter.unusedSimpArgs false
namespace Go.Sh
open Go.Ev Go.Nm

theorem bnd_eq {α β : Type} {o : Option α} {a : α} {f : α → Option β} (h : o = some a) : bnd o f = f a := by rw [h]; rfl
theorem bnd_s {α β : Type} (a : α) (f : α → Option β) : bnd (some a) f = f a := rfl
theorem lt_s {α β : Type} (a : α) (f : α → Option β) : lt a f = f a := rfl
theorem sm_inl {α β γ : Type} (a : α) (f : α → γ) (g : β → γ) : sm (.inl a) f g = f a := rfl
theorem sm_inr {α β γ : Type} (b : β) (f : α → γ) (g : β → γ) : sm (.inr b) f g = g b := rfl
theorem bnd_ite {α β : Type} {c : Prop} [Decidable c] (x y : Option α) (f : α → Option β) : bnd (if c then x else y) f = if c then bnd x f else bnd y f := by split <;> rfl
theorem chk_t {p : Prop} [Decidable p] (h : p) : chk p = some () := by simp [chk, h]

/-- A loop: what holds, how long still, what comes out. -/
theorem iter_inv {σ ξ : Type} {b : σ → Option (σ ⊕ ξ)} (I : Nat → σ → Prop) (R : ξ → Prop)
    (step : ∀ k s, I k s → (∃ s' k', b s = some (.inl s') ∧ k' < k ∧ I k' s') ∨ ∃ x, b s = some (.inr x) ∧ R x) : ∀ k s, I k s → ∃ x, iter b s = some x ∧ R x := by
  intro k
  induction k using Nat.strongRecOn with
  | _ k ih =>
    intro s hs
    rcases step k s hs with ⟨s', k', h1, h2, h3⟩ | ⟨x, h1, h2⟩
    · obtain ⟨x, h4, h5⟩ := ih k' h2 s' h3
      obtain ⟨n, hn⟩ := iter_some h4
      exact ⟨x, iter_of (n := n + 1) (by simp only [iterN, h1]; exact hn), h5⟩
    · exact ⟨x, iter_of (n := 1) (by simp only [iterN, h1]), h2⟩

/-- The same where what comes out is known. -/
theorem iter_eqI {σ ξ : Type} {b : σ → Option (σ ⊕ ξ)} (I : Nat → σ → Prop) (x0 : ξ)
    (step : ∀ k s, I k s → (∃ s' k', b s = some (.inl s') ∧ k' < k ∧ I k' s') ∨ b s = some (.inr x0)) {k : Nat} {s : σ} (h : I k s) : iter b s = some x0 := by
  obtain ⟨x, h1, rfl⟩ := iter_inv I (· = x0) (fun k s hs => (step k s hs).imp id fun h => ⟨x0, h, rfl⟩) k s h
  exact h1

theorem bnd_iter {σ ξ β : Type} {b : σ → Option (σ ⊕ ξ)} {s : σ} {f : ξ → Option β} {r : β} (I : Nat → σ → Prop) (R : ξ → Prop) (k : Nat) (h0 : I k s)
    (step : ∀ k s, I k s → (∃ s' k', b s = some (.inl s') ∧ k' < k ∧ I k' s') ∨ ∃ x, b s = some (.inr x) ∧ R x) (rest : ∀ x, R x → f x = some r) : bnd (iter b s) f = some r := by
  obtain ⟨x, h1, h2⟩ := iter_inv I R step k s h0
  rw [bnd_eq h1]
  exact rest x h2

def li (l : List Nat) : List Int := l.map fun n : Nat => (n : Int)
def nt (n : Nat) : List Int := li (limbs n)

theorem li_len (l : List Nat) : (li l).length = l.length := by simp [li]
theorem nt_len (n : Nat) : (nt n).length = lim n := by simp [nt, li, lim]
theorem nt_zero : nt 0 = [] := by simp [nt, limbs_zero, li]
theorem li_app (a b : List Nat) : li (a ++ b) = li a ++ li b := by simp [li]
theorem get_li {l : List Nat} {i x : Nat} (h : l[i]? = some x) : get (li l) (i : Int) = some (x : Int) := by
  unfold Ev.get
  rw [if_pos (by omega), Int.toNat_natCast]
  simp [li, h]
theorem put_li {l : List Nat} {i x : Nat} (h : i < l.length) : put (li l) (i : Int) (x : Int) = some (li (l.set i x)) := by
  unfold Ev.put
  rw [if_pos (by rw [li_len]; omega), Int.toNat_natCast]
  simp [li, List.map_set]
theorem sub_li {l : List Nat} {a b : Nat} (h1 : a ≤ b) (h2 : b ≤ l.length) : sub (li l) (a : Int) (b : Int) = some (li ((l.take b).drop a)) := by
  unfold Ev.sub
  rw [if_pos (by rw [li_len]; omega), Int.toNat_natCast, Int.toNat_natCast]
  simp [li, List.map_take, List.map_drop]
theorem mk_li {b n : Nat} (h : b * n ≤ 140737488355328) (h2 : n ≤ 1099511627776) : mk b (n : Int) (n : Int) (0 : Int) = some (li (List.replicate n 0)) := by
  unfold Ev.mk
  rw [if_pos ⟨by omega, by omega, by rw [← Int.natCast_mul]; omega, by omega⟩, Int.toNat_natCast]
  simp [li]
theorem li_inj {a b : List Nat} (h : li a = li b) : a = b := by
  unfold li at h
  exact (List.map_inj_right fun x y h => by omega).1 h

theorem w64n {n : Nat} (h : n < 9223372036854775808) : wrap .i64 (n : Int) = (n : Int) := w64 (by omega) (by omega)
theorem w32n {n : Nat} (h : n < 4294967296) : wrap .u32 (n : Int) = (n : Int) := w32 (by omega) (by omega)
theorem wu64n {n : Nat} (h : n < 18446744073709551616) : wrap .u64 (n : Int) = (n : Int) := wu64 (by omega) (by omega)
theorem w32m (n : Nat) : wrap .u32 (n : Int) = ((n % 4294967296 : Nat) : Int) := by
  show IntKind.wrap .u32 _ = _
  rw [wrap32]; omega
theorem shr32 (n : Nat) : shr .u64 (n : Int) 32 = ((n / 4294967296 : Nat) : Int) := by
  show (n : Int) / 2 ^ Nat.min (32 : Int).toNat IntKind.u64.bits = _
  have : (2 : Int) ^ Nat.min (32 : Int).toNat IntKind.u64.bits = ((4294967296 : Nat) : Int) := by decide
  rw [this]
  exact (Int.natCast_ediv _ _).symm

/-! ### limbs -/
theorem trim_ok (l : List Nat) (h : Lt l) (hl : l.length < 4611686018427387904) : nat_trim (li l) = some (nt (val l)) := by
  unfold nat_trim
  refine bnd_iter (fun k s => ∃ m, s = li m ∧ m.length = k ∧ Lt m ∧ val m = val l ∧ k ≤ l.length) (fun x => x = nt (val l)) l.length ⟨l, rfl, rfl, h, rfl, Nat.le_refl _⟩ ?_ (fun x hx => by rw [hx])
  rintro k s ⟨m, rfl, hm, hlt, hv, hk⟩
  have fin : Nm.Can m → li m = nt (val l) := fun hc => by rw [nt, ← hv, limbs_val hc]
  rcases snoc m with rfl | ⟨p, x, rfl⟩
  · right
    refine ⟨_, ?_, fin ⟨hlt, by simp⟩⟩
    simp [li, bnd, lt]
  · have hlen : ((li (p ++ [x])).length : Int) = ((p.length + 1 : Nat) : Int) := by rw [li_len]; simp
    have e1 : wrap .i64 (((p.length + 1 : Nat) : Int) - 1) = (p.length : Int) := by
      have : (((p.length + 1 : Nat) : Int) - 1) = (p.length : Int) := by omega
      rw [this]
      exact w64n (by simp at hm; omega)
    have hg : Ev.get (li (p ++ [x])) (p.length : Int) = some (x : Int) := get_li (by simp)
    have hs : Ev.sub (li (p ++ [x])) 0 (p.length : Int) = some (li p) := by
      have := sub_li (l := p ++ [x]) (a := 0) (b := p.length) (by omega) (by simp)
      simpa using this
    simp only [hlen, e1, bnd_eq hg, bnd_eq hs]
    by_cases hx : x = 0
    · left
      refine ⟨li p, p.length, ?_, by simp at hm; omega, p, rfl, rfl, fun y hy => hlt y (by simp [hy]), ?_, by simp at hm; omega⟩
      · rw [if_pos (by simp), bnd_s, if_pos (by simp [hx])]
      · rw [← hv, val_append, hx]
        simp [val]
    · right
      refine ⟨_, ?_, fin ⟨hlt, by simpa using hx⟩⟩
      rw [if_pos (by simp), bnd_s, if_neg (by simp [hx])]

theorem Of_ok (n : Nat) (h : n < 18446744073709551616) : nat_Of (n : Int) = some (nt n) := by
  unfold nat_Of
  have e1 : wrap .u32 (n : Int) = ((n % 4294967296 : Nat) : Int) := w32m n
  have e3 : wrap .u32 (shr .u64 (n : Int) 32) = ((n / 4294967296 : Nat) : Int) := by rw [shr32]; exact w32n (by omega)
  have e4 := trim_ok [n % 4294967296, n / 4294967296] (by intro x hx; simp at hx; omega) (by simp)
  have hv : val [n % 4294967296, n / 4294967296] = n := by simp [val]; omega
  rw [hv] at e4
  rw [e1, e3]
  exact bnd_eq e4

theorem Zero_ok (n : Nat) : nat_Nat_Zero (nt n) = some (decide (n = 0)) := by
  unfold nat_Nat_Zero
  rw [nt_len]
  congr 1
  exact decide_eq_decide.2 (by have := @lim_zero_iff n; omega)

theorem lim_one_iff {n : Nat} : lim n = 1 ↔ n ≠ 0 ∧ n < 4294967296 := by
  have h1 := @lim_zero_iff n
  have h2 := @lim_iff n 1
  simp only [Nat.pow_one] at h2
  omega
theorem limbs_one {n : Nat} (h : lim n = 1) : limbs n = [n] := by
  obtain ⟨h1, h2⟩ := lim_one_iff.1 h
  rw [limbs_pos h1, Nat.div_eq_of_lt h2, limbs_zero, Nat.mod_eq_of_lt h2]

theorem One_ok (n : Nat) : nat_Nat_One (nt n) = some (decide (n = 1)) := by
  unfold nat_Nat_One
  rw [nt_len]
  by_cases h : lim n = 1
  · have hg : get (nt n) ((0 : Nat) : Int) = some (n : Int) := get_li (by rw [limbs_one h]; rfl)
    rw [if_pos (by simp [h])]
    simp only [bnd_eq (show Ev.get (nt n) 0 = _ from hg), bnd_s]
    exact congrArg some (decide_eq_decide.2 (by omega))
  · have h1 : n ≠ 1 := by
      rintro rfl
      exact h (lim_one_iff.2 ⟨by omega, by omega⟩)
    rw [if_neg (by simp; omega), bnd_s]
    simp [h1]

theorem Limbs_ok (n : Nat) : nat_Nat_Limbs (nt n) = some (lim n : Int) := by
  unfold nat_Nat_Limbs
  rw [nt_len]

def cmpI (m n : Nat) : Int := if m < n then -1 else if m = n then 0 else 1

theorem Cmp_ok (m n : Nat) (hm : lim m < 4611686018427387904) (hn : lim n < 4611686018427387904) : nat_Nat_Cmp (nt m) (nt n) = some (cmpI m n) := by
  unfold nat_Nat_Cmp
  rw [nt_len, nt_len]
  by_cases hlen : lim m = lim n
  · rw [if_neg (by simp [hlen])]
    rw [show wrap .i64 ((lim m : Int) - 1) = (lim m : Int) - 1 from w64 (by omega) (by omega)]
    refine bnd_iter (fun k s => s = (k : Int) - 1 ∧ k ≤ lim m ∧ (limbs m).drop k = (limbs n).drop k) (fun x : Unit ⊕ Int => sm x (fun _ => some (0 : Int)) (fun x => some x) = some (cmpI m n)) (lim m) ⟨rfl, Nat.le_refl _, by
      rw [List.drop_of_length_le (by simp [lim]), List.drop_of_length_le (by rw [hlen]; simp [lim])]⟩ ?_ (fun x hx => hx)
    · rintro k s ⟨rfl, hk, hd⟩
      cases k with
      | zero =>
        right
        refine ⟨.inl (), by simp, ?_⟩
        have e1 : m = n := by
          have := congrArg val (show limbs m = limbs n from hd)
          rwa [val_limbs, val_limbs] at this
        simp [sm, cmpI, e1]
      | succ k =>
        have hx : (limbs m)[k]? = some (limbs m)[k] := List.getElem?_eq_getElem hk
        have hy : (limbs n)[k]? = some ((limbs n)[k]'(by have : lim n = (limbs n).length := rfl; omega)) := List.getElem?_eq_getElem _
        revert hx hy
        generalize (limbs m)[k] = x
        generalize (limbs n)[k]'_ = y
        intro hx hy
        have gx : get (nt m) (k : Int) = some (x : Int) := get_li hx
        have gy : get (nt n) (k : Int) = some (y : Int) := get_li hy
        have ek : (((k + 1 : Nat) : Int) - 1) = (k : Int) := by omega
        rw [ek]
        simp only [bnd_eq gx, bnd_eq gy]
        rw [if_pos (by simp)]
        by_cases hxy : x = y
        · left
          refine ⟨_, k, by rw [if_neg (by simp [hxy])], by omega, w64 (by omega) (by omega), by omega, ?_⟩
          obtain ⟨h1, h2⟩ := List.getElem?_eq_some_iff.1 hx
          obtain ⟨h3, h4⟩ := List.getElem?_eq_some_iff.1 hy
          rw [List.drop_eq_getElem_cons h1, List.drop_eq_getElem_cons h3, hd, h2, h4, hxy]
        · right
          rw [if_pos (by simp; omega)]
          by_cases hlt : x < y
          · have := lt_at (limbs_lt m) hx hy hd hlt
            rw [val_limbs, val_limbs] at this
            refine ⟨_, by rw [if_pos (by simp; omega)], by simp [sm, cmpI, this]⟩
          · have := lt_at (limbs_lt n) hy hx hd.symm (by omega)
            rw [val_limbs, val_limbs] at this
            refine ⟨_, by rw [if_neg (by simp; omega)], ?_⟩
            simp only [sm, cmpI]
            rw [if_neg (by omega), if_neg (by omega)]
  · rw [if_pos (by simp; omega)]
    by_cases hlt : lim m < lim n
    · rw [if_pos (by simp; omega)]
      have : m < n := Nat.lt_of_not_le fun h => by have := lim_mono h; omega
      simp [cmpI, this]
    · rw [if_neg (by simp; omega)]
      have : n < m := Nat.lt_of_not_le fun h => by have := lim_mono h; omega
      simp only [cmpI]
      rw [if_neg (by omega), if_neg (by omega)]
end Go.Sh
