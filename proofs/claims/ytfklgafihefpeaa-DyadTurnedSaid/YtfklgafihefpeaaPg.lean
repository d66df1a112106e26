/- Plain words: division, greatest common divisors, powers. -/
import Derived.Test.YtfklgafihefpeaaPf
set_option linter.unusedVariables false
set_option linter.unusedSimpArgs false
namespace Go.Sh
open Go.Ev Go.Nm

theorem Of1 : nat_Of 1 = some (nt 1) := Of_ok 1 (by omega)

theorem DivMod_ok (a b : Nat) (ha : lim a < 1000000000) (hb : lim b < 1000000000) (hb0 : b ≠ 0) : nat_Nat_DivMod (nt a) (nt b) = some (nt (a / b), nt (a % b), true) := by
  unfold nat_Nat_DivMod
  simp only [nt_len]
  have hl0 : lim b ≠ 0 := fun h => hb0 (lim_zero_iff.1 h)
  rw [if_neg (by simp; omega), bnd_eq (Cmp_ok a b (by omega) (by omega))]
  by_cases hlt : a < b
  · rw [if_pos (by simp [cmpI_neg]; exact hlt), Nat.div_eq_of_lt hlt, Nat.mod_eq_of_lt hlt, nt_zero]
  · rw [if_neg (by simp [cmpI_neg]; omega)]
    by_cases h1 : lim b = 1
    · have h2 := lim_one_iff.1 h1
      have hg : Ev.get (nt b) 0 = some (b : Int) := get_li (i := 0) (by rw [limbs_one h1]; rfl)
      have hm := Nat.mod_lt a (Nat.pos_iff_ne_zero.2 hb0)
      rw [if_pos (by simp [h1]), bnd_eq hg, bnd_eq (small_ok a b ha (by omega) h2.2)]
      dsimp only
      rw [wu64n (by omega), bnd_eq (Of_ok _ (by omega))]
    · rw [if_neg (by simp; omega), bnd_eq (long_ok a b (by omega) (lim_mono (by omega)) ha)]

theorem DivMod_zero (a : Nat) : nat_Nat_DivMod (nt a) (nt 0) = some ([], [], false) := by
  unfold nat_Nat_DivMod
  rw [nt_len, if_pos (by simp [lim_zero_iff.2 rfl])]

theorem lim_mod_lt (a b : Nat) (hb0 : b ≠ 0) : lim (a % b) ≤ lim b := lim_mono (Nat.le_of_lt (Nat.mod_lt a (Nat.pos_iff_ne_zero.2 hb0)))

theorem Gcd_ok (a b : Nat) (ha : lim a < 1000000000) (hb : lim b < 1000000000) : nat_Nat_Gcd (nt a) (nt b) = some (nt (Nat.gcd a b)) := by
  unfold nat_Nat_Gcd
  refine bnd_iter (fun k s => ∃ x y : Nat, s = (nt x, nt y) ∧ k = y ∧ lim x < 1000000000 ∧ lim y < 1000000000 ∧ Nat.gcd x y = Nat.gcd a b)
    (fun r => sm r (fun x12 => some x12) (fun x13 => some x13) = some (nt (Nat.gcd a b))) b ⟨a, b, rfl, rfl, ha, hb, rfl⟩ ?_ (fun x hx => hx)
  rintro k s ⟨x, y, rfl, hk, hx, hy, hg⟩
  dsimp only
  rw [bnd_eq (Zero_ok y)]
  by_cases hy0 : y = 0
  · right
    refine ⟨_, by rw [if_neg (by simp [hy0])], ?_⟩
    subst hy0
    rw [Nat.gcd_zero_right] at hg
    rw [sm_inl, hg]
  · rw [if_pos (by simp [hy0]), bnd_eq (Uint_ok x), bnd_eq (Uint_ok y)]
    by_cases hs : x < 18446744073709551616 ∧ y < 18446744073709551616
    · right
      rw [if_pos hs.1, if_pos hs.2]
      have inner : iter (σ := Int × Int) (ξ := Int) (fun s6 =>
              if (decide (s6.2 ≠ 0)) = true then
                bnd (chk (s6.2 ≠ 0)) fun v7 =>
                some (.inl (s6.2, (Int.tmod s6.1 s6.2)))
              else
                some (.inr s6.1)) ((x : Int), (y : Int)) = some ((Nat.gcd x y : Nat) : Int) := by
        refine iter_eqI (fun k s => ∃ u v : Nat, s = ((u : Int), (v : Int)) ∧ k = v ∧ Nat.gcd u v = Nat.gcd x y) _ ?_ (k := y) ⟨x, y, rfl, rfl, rfl⟩
        rintro k s ⟨u, v, rfl, hk, hg⟩
        by_cases hv : v = 0
        · right
          subst hv
          rw [Nat.gcd_zero_right] at hg
          simp [hg]
        · left
          refine ⟨((v : Int), ((u % v : Nat) : Int)), u % v, ?_, by have := Nat.mod_lt u (Nat.pos_iff_ne_zero.2 hv); omega, v, u % v, rfl, rfl, ?_⟩
          · dsimp only
            rw [if_pos (by simp; omega), bnd_eq (chk_t (by omega)), tmodn]
          · rw [← hg, Nat.gcd_comm u v, Nat.gcd_rec v u, Nat.gcd_comm]
      have hgl : Nat.gcd x y ≤ y := Nat.gcd_le_right _ (Nat.pos_iff_ne_zero.2 hy0)
      refine ⟨.inr (nt (Nat.gcd x y)), ?_, ?_⟩
      · dsimp only
        rw [if_pos rfl, lt_s, if_pos rfl, bnd_eq inner, bnd_eq (Of_ok _ (by omega))]
      · rw [sm_inr, hg]
    · left
      refine ⟨(nt y, nt (x % y)), x % y, ?_, by have := Nat.mod_lt x (Nat.pos_iff_ne_zero.2 hy0); omega, y, x % y, rfl, rfl, hy, by have := lim_mod_lt x y hy0; omega, ?_⟩
      · have hf : (if (if x < 18446744073709551616 then ((x : Int), true) else (0, false)).2 = true then (if y < 18446744073709551616 then ((y : Int), true) else (0, false)).2 else false) = false := by
          by_cases h1 : x < 18446744073709551616
          · rw [if_pos h1, if_neg (fun h2 => hs ⟨h1, h2⟩)]
            rfl
          · rw [if_neg h1]
            rfl
        rw [hf, lt_s, if_neg (by simp), bnd_eq (DivMod_ok x y hx hy hy0)]
      · rw [← hg, Nat.gcd_comm x y, Nat.gcd_rec y x, Nat.gcd_comm]

theorem lim_mul_le (a b : Nat) : lim (a * b) ≤ lim a + lim b := by
  refine lim_le ?_
  rw [Nat.pow_add]
  exact Nat.mul_lt_mul_of_lt_of_le (lt_lim a) (Nat.le_of_lt (lt_lim b)) (Nat.pow_pos (by omega))

theorem lim_add_le (a b k : Nat) (ha : lim a ≤ k) (hb : lim b ≤ k) : lim (a + b) ≤ k + 1 := by
  refine lim_le ?_
  rw [Nat.pow_succ]
  have h1 := lim_iff.1 ha
  have h2 := lim_iff.1 hb
  generalize 4294967296 ^ k = P at *
  omega

theorem lim_one1 : lim 1 = 1 := lim_one_iff.2 ⟨by omega, by omega⟩

theorem Pow_triv (a : Nat) (n most : Int) (h : n ≤ 0 ∨ a = 1) : nat_Nat_Pow (nt a) n most = some (nt 1, true) := by
  unfold nat_Nat_Pow
  rw [bnd_eq Of1]
  have : (if (decide (n ≤ 0)) = true then some true else bnd (nat_Nat_One (nt a)) fun v2 => some v2) = some true := by
    by_cases hn : n ≤ 0
    · rw [if_pos (by simpa using hn)]
    · rw [if_neg (by simpa using hn), bnd_eq (One_ok a)]
      rcases h with h | h
      · exact absurd h hn
      · simp [h]
  rw [bnd_eq this, if_pos rfl]

theorem Pow_ok (a n most : Nat) (hn : 0 < n) (hn2 : n < 9223372036854775807) (ha1 : a ≠ 1) (ha : lim a < 500000000) (hmost : most < 400000000) :
    nat_Nat_Pow (nt a) (n : Int) (most : Int) = some (if a = 0 then (nt 0, true) else if lim (a ^ n) ≤ most then (nt (a ^ n), true) else ([], false)) := by
  unfold nat_Nat_Pow
  rw [bnd_eq Of1]
  have : (if (decide ((n : Int) ≤ 0)) = true then some true else bnd (nat_Nat_One (nt a)) fun v2 => some v2) = some false := by
    rw [if_neg (by simp; omega), bnd_eq (One_ok a)]
    simp [ha1]
  rw [bnd_eq this, if_neg (by simp), bnd_eq (Zero_ok a)]
  by_cases h0 : a = 0
  · rw [if_pos (by simp [h0]), if_pos h0, h0]
  rw [if_neg (by simp [h0]), if_neg h0]
  have ha2 : 2 ≤ a := by omega
  have hmono : ∀ i, i ≤ n → lim (a ^ i) ≤ lim (a ^ n) := fun i hi => lim_mono (Nat.pow_le_pow_right (by omega) hi)
  refine bnd_iter (fun k s => ∃ i : Nat, s = ((i : Int), nt (a ^ i)) ∧ i + k = n ∧ (lim (a ^ i) ≤ most ∨ i = 0))
    (fun r => sm r (fun x9 => some (x9, true)) (fun x10 => some x10) = some (if lim (a ^ n) ≤ most then (nt (a ^ n), true) else ([], false))) n ⟨0, by simp, by omega, .inr rfl⟩ ?_ (fun x hx => hx)
  rintro k s ⟨i, rfl, hik, hi⟩
  have hli : lim (a ^ i) < 500000000 := by
    rcases hi with hi | hi
    · omega
    · subst hi
      rw [Nat.pow_zero, lim_one1]
      omega
  dsimp only
  by_cases hin : i < n
  · have hm := Mul_ok (a ^ i) a (by omega) (by omega)
    rw [← Nat.pow_succ] at hm
    rw [if_pos (by simp; omega), bnd_eq hm, bnd_eq (Limbs_ok _)]
    by_cases hc : lim (a ^ (i + 1)) ≤ most
    · left
      refine ⟨_, k - 1, by rw [if_neg (by simp; omega), inc64 (by omega)], by omega, i + 1, rfl, by omega, .inl hc⟩
    · right
      refine ⟨_, by rw [if_pos (by simp; omega)], ?_⟩
      have := hmono (i + 1) hin
      rw [sm_inr, if_neg (by omega)]
  · right
    have hie : i = n := by omega
    refine ⟨_, by rw [if_neg (by simp; omega)], ?_⟩
    rw [sm_inl, hie]
    rw [hie] at hi
    rw [if_pos (by omega)]
end Go.Sh
