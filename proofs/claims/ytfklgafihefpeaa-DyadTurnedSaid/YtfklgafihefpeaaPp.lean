/- Plain words: numbers read and written. -/
import Derived.Test.YtfklgafihefpeaaPo
set_option linter.unusedVariables false
set_option linter.unusedSimpArgs false
namespace Go.Sh
open Go.Ev Go.Nm

theorem rRight_ok (s : Str) (hs : s.length < 1000000000000) : ref01_Right s = some (decide (s.all isD = true ∧ 1 ≤ s.length ∧ s.length ≤ 2000)) := by
  unfold ref01_Right
  refine bnd_iter (fun k t => ∃ i : Nat, t = (i : Int) ∧ k = s.length - i ∧ i ≤ s.length ∧ (s.take i).all isD = true)
    (fun x => (x = .inr false ∧ ¬ s.all isD = true) ∨ (x = .inl () ∧ (s.length ≤ 2000 → s.all isD = true))) s.length ⟨0, rfl, by omega, by omega, rfl⟩ ?_ ?_
  · rintro k t ⟨i, rfl, hk, hi, hall⟩
    rw [lt_s]
    by_cases h1 : i < s.length ∧ i ≤ 2000
    · have hg : s[i]? = some s[i] := List.getElem?_eq_getElem h1.1
      revert hg
      generalize s[i] = c
      intro hg
      have hcond : (if (decide (Int.ofNat c.toNat < 48)) = true then some true else bnd (Ev.get s (i : Int)) fun v4 => some (decide (57 < Int.ofNat v4.toNat))) = some (!isD c) := by
        by_cases h2 : c.toNat < 48
        · rw [if_pos (by simp; omega)]
          simp [isD]; omega
        · rw [if_neg (by simp; omega), bnd_eq (get_str hg)]
          refine congrArg some ?_
          unfold isD
          rw [decide_eq_true (show 48 ≤ c.toNat by omega), Bool.true_and, Bool.eq_iff_iff]
          simp
          omega
      rw [if_pos (by rw [if_pos (by simp; omega)]; simp; omega), bnd_eq (get_str hg), bnd_eq hcond]
      by_cases hc : isD c = true
      · left
        rw [if_neg (by simp [hc]), inc64 (by omega)]
        exact ⟨_, k - 1, rfl, by omega, i + 1, rfl, by omega, by omega, by rw [all_take_succ hg, hall, hc]; rfl⟩
      · right
        rw [if_pos (by simpa using hc)]
        exact ⟨_, rfl, .inl ⟨rfl, fun h => hc (List.all_eq_true.1 h c (List.mem_of_getElem? hg))⟩⟩
    · right
      rw [if_neg (by
        by_cases h2 : i < s.length
        · rw [if_pos (by simp; omega)]; simp; omega
        · rw [if_neg (by simp; omega)]; simp)]
      refine ⟨_, rfl, .inr ⟨rfl, fun h => ?_⟩⟩
      rw [show i = s.length by omega, List.take_length] at hall
      exact hall
  · rintro x (⟨rfl, h⟩ | ⟨rfl, h⟩)
    · rw [sm_inr]
      congr 1
      simp [h]
    · rw [sm_inl, lt_s]
      congr 1
      by_cases h1 : 1 ≤ s.length
      · rw [if_pos (by simp; omega)]
        by_cases h2 : s.length ≤ 2000
        · simp [h2, h h2]; omega
        · have : ¬ s.length ≤ 2000 := h2
          simp [this]
          omega
      · rw [if_neg (by simp; omega)]
        simp; omega

/-- A ratio as the document writes it. -/
def num (x : Int) (n : Nat) : T_api_Num := (decide (x < 0), dec x.natAbs, dec n)

theorem Right_ok (a : T_api_Num) (h1 : a.2.1.length < 1000000000000) (h2 : a.2.2.length < 1000000000000) :
    ∃ b, ref03_Right a = some b ∧ (b = true → ∃ (x : Int) (n : Nat), a = num x n ∧ 0 < n ∧ Nat.gcd x.natAbs n = 1 ∧ (dec x.natAbs).length ≤ 2000 ∧ (dec n).length ≤ 2000) := by
  obtain ⟨neg, t, u⟩ := a
  unfold ref03_Right
  dsimp only at h1 h2 ⊢
  have falsy : ∀ (f : Bool → Option Bool), (∀ b, f b = if b = true then some false else f b) → True := fun _ _ => trivial
  rw [bnd_eq (rRight_ok t h1)]
  by_cases c1 : t.all isD = true ∧ 1 ≤ t.length ∧ t.length ≤ 2000
  · rw [if_neg (by rw [decide_eq_true c1]; simp), bnd_eq (rRight_ok u h2)]
    by_cases c2 : u.all isD = true ∧ 1 ≤ u.length ∧ u.length ≤ 2000
    · have t0 : t ≠ [] := fun h => by rw [h] at c1; simp at c1
      have u0 : u ≠ [] := fun h => by rw [h] at c2; simp at c2
      rw [if_neg (by rw [decide_eq_true c2]; simp), bnd_eq (rTrim_ok t c1.1 t0)]
      by_cases c3 : dec (pv t) = t
      · rw [if_neg (by simp [c3]), bnd_eq (rTrim_ok u c2.1 u0)]
        by_cases c4 : dec (pv u) = u
        · rw [if_neg (by simp [c4]), bnd_s]
          by_cases c5 : u = [48]
          · rw [if_pos (by simp [c5])]
            exact ⟨false, rfl, by simp⟩
          · have hn0 : pv u ≠ 0 := fun h => c5 (by rw [← c4, h]; exact dec_small (by omega))
            have hg := rGcd_ok (pv t) (pv u) (by rw [c3]; omega) (by rw [c4]; omega)
            rw [c3, c4] at hg
            rw [if_neg (by simpa using c5), bnd_eq hg]
            by_cases c6 : dec (Nat.gcd (pv t) (pv u)) = [49]
            · have hg1 : Nat.gcd (pv t) (pv u) = 1 := dec_inj (c6.trans (show [49] = dec 1 from (dec_small (show 1 < 10 by omega)).symm))
              rw [if_pos (by simp [c6]), lt_s, bnd_s]
              refine ⟨_, rfl, fun hb => ?_⟩
              refine ⟨sg neg (pv t), pv u, ?_, by omega, by rw [sg_abs]; exact hg1, by rw [sg_abs, c3]; omega, by rw [c4]; omega⟩
              unfold num
              rw [sg_abs, c3, c4]
              congr 1
              cases neg with
              | false => simp [sg]
              | true =>
                have : t ≠ [48] := by simpa using hb
                have hp : pv t ≠ 0 := fun h => this (by rw [← c3, h]; exact dec_small (by omega))
                have hneg : sg true (pv t) < 0 := by unfold sg; rw [if_pos rfl]; omega
                exact (decide_eq_true hneg).symm
            · rw [if_neg (by simpa using c6), bnd_s]
              exact ⟨false, rfl, by simp⟩
        · rw [if_pos (by simpa using c4), bnd_s, if_pos rfl]
          exact ⟨false, rfl, by simp⟩
      · rw [if_pos (by simpa using c3), bnd_s, if_pos rfl]
        exact ⟨false, rfl, by simp⟩
    · rw [if_pos (by rw [decide_eq_false c2]; rfl), bnd_s, if_pos rfl]
      exact ⟨false, rfl, by simp⟩
  · rw [if_pos (by rw [decide_eq_false c1]; rfl), bnd_s, if_pos rfl]
    exact ⟨false, rfl, by simp⟩

theorem lim_dec (n : Nat) : lim n ≤ (dec n).length := lim10 (dec_lt n)

theorem Num_ok (x : Int) (n : Nat) (hx : (dec x.natAbs).length < 100000000) (hn : (dec (dn n)).length < 100000000) : ratio_Rat_Num (rt x n) = some (num x (dn n)) := by
  unfold ratio_Rat_Num
  have h1 := lim_dec x.natAbs
  have h2 := lim_dec (dn n)
  have h3 := dl_len_le x.natAbs
  have h4 := dl_len_le (dn n)
  rw [rt1, bnd_eq (whNeg_ok x), wh1, bnd_eq (Text_ok _ (by omega) (by omega)), bnd_eq (down_ok x n), bnd_eq (Text_ok _ (by omega) (by omega))]
  rfl

theorem ROf_num (x : Int) (n : Nat) (hn : 0 < n) (hg : Nat.gcd x.natAbs n = 1) (h1 : (dec x.natAbs).length ≤ 2000) (h2 : (dec n).length ≤ 2000) :
    ratio_Of (num x n) = some (rt x n, true) := by
  unfold ratio_Of num
  dsimp only
  have l1 := lim_dec x.natAbs
  have l2 := lim_dec n
  have p1 := Parse_ok (dec x.natAbs)
  have p2 := Parse_ok (dec n)
  rw [if_pos ⟨dec_ne _, h1, dec_all _⟩, pv_dec] at p1
  rw [if_pos ⟨dec_ne _, h2, dec_all _⟩, pv_dec] at p2
  have w1 := wOf_ok (decide (x < 0)) x.natAbs
  have w2 := wOf_ok false n
  rw [sg_of] at w1
  rw [show sg false n = (n : Int) from rfl] at w2
  have hnew := NewN_ok x n (by omega) (by omega) hn
  have hred : red x n = rt x n := by
    unfold red
    rw [hg, Nat.div_one, Nat.div_one, sg_of]
  rw [hred] at hnew
  have hnum := Num_ok x n (by omega) (by rw [dn_of hn]; omega)
  rw [dn_of hn] at hnum
  rw [bnd_eq p1, bnd_eq p2, lt_s, if_neg (by simp), bnd_eq w1, bnd_eq w2, bnd_eq hnew, if_pos rfl, bnd_eq hnum]
  unfold num
  simp [bnd_s]

/-- What a statement reads. -/
theorem read_ok (a : T_api_Num) : (∃ r, law13_read a = some (r, false)) ∨
    ∃ (x : Int) (n : Nat), law13_read a = some (rt x n, true) ∧ a = num x n ∧ 0 < n ∧ Nat.gcd x.natAbs n = 1 ∧ (dec x.natAbs).length ≤ 40 ∧ (dec n).length ≤ 40 := by
  unfold law13_read
  rw [lt_s]
  by_cases c1 : 40 < a.2.1.length ∨ 40 < a.2.2.length
  · left
    rw [if_pos (by rcases c1 with c | c <;> simp <;> omega), bnd_s, if_pos rfl]
    exact ⟨_, rfl⟩
  · obtain ⟨b, hb, hr⟩ := Right_ok a (by omega) (by omega)
    rw [if_neg (by simp; omega), bnd_eq hb, bnd_s]
    cases b with
    | false =>
      left
      rw [if_pos (by simp)]
      exact ⟨_, rfl⟩
    | true =>
      right
      obtain ⟨x, n, rfl, hn, hg, hx, hnl⟩ := hr rfl
      rw [if_neg (by simp), bnd_eq (ROf_num x n hn hg hx hnl)]
      exact ⟨x, n, rfl, rfl, hn, hg, by have : (num x n).2.1 = dec x.natAbs := rfl; rw [this] at c1; omega, by have : (num x n).2.2 = dec n := rfl; rw [this] at c1; omega⟩
end Go.Sh
