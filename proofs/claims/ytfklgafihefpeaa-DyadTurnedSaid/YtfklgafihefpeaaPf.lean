/- Plain words: quotients, greatest common divisors, powers. -/
import Derived.Test.YtfklgafihefpeaaPe
set_option linter.unusedVariables false
set_option linter.unusedSimpArgs false
namespace Go.Sh
open Go.Ev Go.Nm

def pw (k : Nat) : Nat := 4294967296 ^ k
theorem pw_def (k : Nat) : pw k = 4294967296 ^ k := rfl
theorem pw_succ (k : Nat) : pw (k + 1) = pw k * 4294967296 := by rw [pw_def, pw_def, Nat.pow_succ]
theorem pw_add (j k : Nat) : pw (j + k) = pw j * pw k := by rw [pw_def, pw_def, pw_def, Nat.pow_add]
theorem pw_zero : pw 0 = 1 := rfl

theorem bnd_id {α : Type} (o : Option α) : bnd o (fun x => some x) = o := by cases o <;> rfl
theorem div_succ (x p : Nat) : x / pw (p + 1) = x / pw p / 4294967296 := by rw [pw_succ, ← Nat.div_div_eq_div_mul]
theorem div_succ2 (x p : Nat) : x / pw (p + 2) = x / pw p / 4294967296 / 4294967296 := by rw [show p + 2 = (p + 1) + 1 from rfl, div_succ, div_succ]
theorem limbs_getP (n i : Nat) (h : i < lim n) : (limbs n)[i]? = some (n / pw i % 4294967296) := limbs_get n i h
theorem get_valP {l : List Nat} {i x : Nat} (hl : Lt l) (h : l[i]? = some x) : x = val l / pw i % 4294967296 := get_val hl h

/-- What is guessed is the quotient, or one more. -/
theorem guess_near (U V D q g : Nat) (hD : 0 < D) (hV0 : 0 < V) (hVB : 4294967296 ≤ V / D) (hg : g < 4294967296) (hgle : g * (V / D) ≤ U / D) (hq : q = U / V) (hqg : q ≤ g) : g = q ∨ g = q + 1 := by
  rcases Nat.eq_zero_or_pos g with h0 | h0
  · omega
  obtain ⟨g', rfl⟩ : ∃ g', g = g' + 1 := ⟨g - 1, by omega⟩
  have h1 : V < (V / D + 1) * D := by
    have := Nat.div_add_mod V D
    have h2 := Nat.mod_lt V hD
    rw [Nat.add_mul, Nat.one_mul, Nat.mul_comm (V / D)]
    omega
  have h3 : g' * V ≤ U := by
    have h4 : g' * V ≤ g' * ((V / D + 1) * D) := Nat.mul_le_mul_left _ (Nat.le_of_lt h1)
    have h5 : g' * (V / D + 1) ≤ U / D := by
      rw [Nat.mul_add, Nat.mul_one]
      rw [Nat.add_mul, Nat.one_mul] at hgle
      omega
    have h6 : g' * (V / D + 1) * D ≤ U / D * D := Nat.mul_le_mul_right _ h5
    have h7 : U / D * D ≤ U := Nat.div_mul_le_self _ _
    rw [Nat.mul_assoc] at h6
    omega
  have h8 : g' ≤ U / V := (Nat.le_div_iff_mul_le hV0).2 h3
  omega

theorem norm_ok (b p : Nat) (hp : lim b = p + 2) : ∃ tb s, tb < 4294967296 ∧ (limbs b)[p + 1]? = some tb ∧ s = 32 - blen tb ∧ s ≤ 31 ∧ 0 < 2 ^ s ∧ 2 ^ s ≤ 2147483648 ∧
    2147483648 * (pw p * 4294967296) ≤ b * 2 ^ s ∧ b * 2 ^ s < pw p * 4294967296 * 4294967296 ∧ lim (b * 2 ^ s) = p + 2 := by
  have hb0 : b ≠ 0 := fun h => by have := lim_zero_iff.2 h; omega
  obtain ⟨D, hD⟩ : ∃ D, pw p = D := ⟨_, rfl⟩
  have hD0 : 0 < D := by rw [← hD, pw_def]; exact Nat.pow_pos (by omega)
  have hD1 : pw (p + 1) = D * 4294967296 := by rw [pw_succ, hD]
  have hD2 : pw (p + 2) = D * 4294967296 * 4294967296 := by rw [pw_succ, hD1]
  have hblt : b < D * 4294967296 * 4294967296 := by rw [← hD2, pw_def, ← hp]; exact lt_lim b
  have hbge : D * 4294967296 ≤ b := by
    refine Nat.le_of_not_lt fun h => ?_
    rw [← hD1, pw_def] at h
    have := lim_le h
    omega
  obtain ⟨tb, htb⟩ : ∃ tb, b / (D * 4294967296) = tb := ⟨_, rfl⟩
  have htb0 : 0 < tb := by rw [← htb]; exact Nat.div_pos hbge (by omega)
  have htbB : tb < 4294967296 := by
    rw [← htb, Nat.div_lt_iff_lt_mul (by omega), Nat.mul_comm]
    exact hblt
  have hg : (limbs b)[p + 1]? = some tb := by
    have h := limbs_getP b (p + 1) (by omega)
    rw [hD1, htb, Nat.mod_eq_of_lt htbB] at h
    exact h
  obtain ⟨s, hs⟩ : ∃ s, s = 32 - blen tb := ⟨_, rfl⟩
  have hbl := blen_mono (n := 32) (show tb < 2 ^ 32 from htbB)
  have hbl0 := blen_pos (Nat.pos_iff_ne_zero.1 htb0)
  have hps : 2 ^ blen tb * 2 ^ s = 4294967296 := by rw [← Nat.pow_add, hs, show blen tb + (32 - blen tb) = 32 by omega]
  have hps1 : 2 ^ (blen tb - 1) * 2 ^ s = 2147483648 := by rw [← Nat.pow_add, hs, show blen tb - 1 + (32 - blen tb) = 31 by omega]
  have hs0 : 0 < 2 ^ s := Nat.pow_pos (by omega)
  have hs31 : (2 : Nat) ^ s ≤ 2147483648 := Nat.pow_le_pow_right (n := 2) (by omega) (show s ≤ 31 by omega)
  have htb1 := blen_lt tb
  have htb2 := blen_le (Nat.pos_iff_ne_zero.1 htb0)
  have hVge : 2147483648 * (D * 4294967296) ≤ b * 2 ^ s := by
    have h1 : 2147483648 ≤ tb * 2 ^ s := by rw [← hps1]; exact Nat.mul_le_mul_right _ htb2
    have h2 : tb * (D * 4294967296) ≤ b := by rw [← htb]; exact Nat.div_mul_le_self _ _
    have h3 : tb * (D * 4294967296) * 2 ^ s ≤ b * 2 ^ s := Nat.mul_le_mul_right _ h2
    have h4 : tb * (D * 4294967296) * 2 ^ s = tb * 2 ^ s * (D * 4294967296) := by rw [Nat.mul_right_comm]
    have h5 : 2147483648 * (D * 4294967296) ≤ tb * 2 ^ s * (D * 4294967296) := Nat.mul_le_mul_right _ h1
    exact Nat.le_trans h5 (by rw [← h4]; exact h3)
  have hVlt : b * 2 ^ s < D * 4294967296 * 4294967296 := by
    have h1 : b < (tb + 1) * (D * 4294967296) := by
      have h2 := Nat.div_add_mod b (D * 4294967296)
      have h3 := Nat.mod_lt b (show D * 4294967296 > 0 by omega)
      rw [htb] at h2
      rw [Nat.add_mul, Nat.one_mul, Nat.mul_comm tb]
      omega
    have h2 : (tb + 1) * 2 ^ s ≤ 4294967296 := by rw [← hps]; exact Nat.mul_le_mul_right _ htb1
    have h3 : b * 2 ^ s < (tb + 1) * (D * 4294967296) * 2 ^ s := Nat.mul_lt_mul_of_pos_right h1 hs0
    have h4 : (tb + 1) * (D * 4294967296) * 2 ^ s = (tb + 1) * 2 ^ s * (D * 4294967296) := by rw [Nat.mul_right_comm]
    have h5 : (tb + 1) * 2 ^ s * (D * 4294967296) ≤ 4294967296 * (D * 4294967296) := Nat.mul_le_mul_right _ h2
    rw [h4] at h3
    exact Nat.lt_of_lt_of_le h3 (by rw [Nat.mul_comm (D * 4294967296)]; exact h5)
  refine ⟨tb, s, htbB, hg, hs, by omega, hs0, hs31, by rw [hD]; exact hVge, by rw [hD]; exact hVlt, ?_⟩
  have h1 : lim (b * 2 ^ s) ≤ p + 2 := lim_le (by rw [← pw_def, hD2]; exact hVlt)
  have h2 : ¬ lim (b * 2 ^ s) ≤ p + 1 := fun h => by
    have h3 := lim_iff.1 h
    rw [← pw_def, hD1] at h3
    have h4 : D * 4294967296 ≤ 2147483648 * (D * 4294967296) := Nat.le_mul_of_pos_left _ (by omega)
    exact Nat.lt_irrefl _ (Nat.lt_of_lt_of_le h3 (Nat.le_trans h4 hVge))
  omega

theorem normA (a m p s V : Nat) (hm : lim a = m + (p + 2)) (hs0 : 0 < 2 ^ s) (hs : 2 ^ s ≤ 2147483648) (hV : 2147483648 * (pw p * 4294967296) ≤ V) : lim (a * 2 ^ s) ≤ lim a + 1 ∧ a * 2 ^ s < pw (m + 1) * V := by
  have h1 := lt_lim a
  constructor
  · refine lim_le ?_
    rw [Nat.pow_succ]
    have h3 : a * 2 ^ s < 4294967296 ^ lim a * 2 ^ s := Nat.mul_lt_mul_of_pos_right h1 hs0
    have h4 : 4294967296 ^ lim a * 2 ^ s ≤ 4294967296 ^ lim a * 4294967296 := Nat.mul_le_mul_left _ (Nat.le_trans hs (by omega))
    exact Nat.lt_of_lt_of_le h3 h4
  · rw [hm, show m + (p + 2) = (m + 1) + (p + 1) by omega, Nat.pow_add, ← pw_def, ← pw_def, pw_succ p] at h1
    have h3 : a * 2 ^ s < pw (m + 1) * (pw p * 4294967296) * 2 ^ s := Nat.mul_lt_mul_of_pos_right h1 hs0
    have h4 : pw (m + 1) * (pw p * 4294967296) * 2 ^ s ≤ pw (m + 1) * (pw p * 4294967296) * 2147483648 := Nat.mul_le_mul_left _ hs
    have h5 : pw (m + 1) * (2147483648 * (pw p * 4294967296)) ≤ pw (m + 1) * V := Nat.mul_le_mul_left _ hV
    have h6 : pw (m + 1) * (pw p * 4294967296) * 2147483648 = pw (m + 1) * (2147483648 * (pw p * 4294967296)) := by rw [Nat.mul_assoc, Nat.mul_comm (pw p * 4294967296)]
    exact Nat.lt_of_lt_of_le h3 (Nat.le_trans h4 (by rw [h6]; exact h5))

theorem head_eq (U2 : Nat) (h : U2 < 79228162514264337593543950336) : U2 / 4294967296 / 4294967296 % 4294967296 * 4294967296 + U2 / 4294967296 % 4294967296 = U2 / 4294967296 := by omega
theorem hi_lt (U2 V2 : Nat) (h : U2 < 4294967296 * (V2 + 1)) (h2 : V2 < 18446744073709551616) : U2 < 79228162514264337593543950336 := by omega

theorem long_ok (a b : Nat) (hb2 : 2 ≤ lim b) (hab : lim b ≤ lim a) (ha : lim a < 1000000000) : nat_long (nt a) (nt b) = some (nt (a / b), nt (a % b)) := by
  obtain ⟨p, hp⟩ : ∃ p, lim b = p + 2 := ⟨lim b - 2, by omega⟩
  obtain ⟨m, hm⟩ : ∃ m, lim a = m + (p + 2) := ⟨lim a - lim b, by omega⟩
  obtain ⟨tb, s, htbB, hgb0, hs, hs31, hs0, hs2, hVge, hVlt, hlimV⟩ := norm_ok b p hp
  have hgb : Ev.get (nt b) ((p + 1 : Nat) : Int) = some (tb : Int) := get_li hgb0
  obtain ⟨hlimA, hAlt⟩ := normA a m p s _ hm hs0 hs2 hVge
  obtain ⟨D, hD⟩ : ∃ D, pw p = D := ⟨_, rfl⟩
  have hD0 : 0 < D := by rw [← hD, pw_def]; exact Nat.pow_pos (by omega)
  have hD2 : pw (p + 2) = D * 4294967296 * 4294967296 := by rw [pw_succ, pw_succ, hD]
  rw [hD] at hVge hVlt
  obtain ⟨V, hV⟩ : ∃ V, b * 2 ^ s = V := ⟨_, rfl⟩
  obtain ⟨A, hA⟩ : ∃ A, a * 2 ^ s = A := ⟨_, rfl⟩
  rw [hV] at hVge hVlt hlimV hAlt
  rw [hA] at hlimA hAlt
  have hV0 : 0 < V := Nat.lt_of_lt_of_le (Nat.mul_pos (by omega) (Nat.mul_pos hD0 (by omega))) hVge
  -- the parts of the divisor
  obtain ⟨V2, hV2⟩ : ∃ V2, V / D = V2 := ⟨_, rfl⟩
  have hV2lt : V2 < 4294967296 * 4294967296 := by
    rw [← hV2, Nat.div_lt_iff_lt_mul hD0, Nat.mul_comm, ← Nat.mul_assoc]
    exact hVlt
  have hV2ge : 2147483648 * 4294967296 ≤ V2 := by
    rw [← hV2, Nat.le_div_iff_mul_le hD0, Nat.mul_assoc, Nat.mul_comm 4294967296 D]
    exact hVge
  have hg7 : Ev.get (nt V) ((p + 1 : Nat) : Int) = some ((V2 / 4294967296 : Nat) : Int) := by
    have h := limbs_getP V (p + 1) (by omega)
    rw [div_succ, hD, hV2, Nat.mod_eq_of_lt (by omega)] at h
    exact get_li h
  have hg8 : Ev.get (nt V) ((p : Nat) : Int) = some ((V2 % 4294967296 : Nat) : Int) := by
    have h := limbs_getP V p (by omega)
    rw [hD, hV2] at h
    exact get_li h
  unfold nat_long
  simp only [nt_len, hp]
  rw [show wrap .i64 (((p + 2 : Nat) : Int) - 1) = ((p + 1 : Nat) : Int) by rw [show (((p + 2 : Nat) : Int) - 1) = ((p + 1 : Nat) : Int) by omega]; exact w64n (by omega)]
  rw [bnd_eq hgb, bnd_eq (LZ_ok tb htbB), ← hs, bnd_eq (Shl_ok b s (by omega) (by omega)), hV, inc64 (by omega), bnd_eq (mk_li (by omega) (by omega)), bnd_eq (Shl_ok a s ha (by omega)), hA]
  simp only [nt_len, hlimV]
  have e1 : wrap .i64 ((lim a : Int) - ((p + 2 : Nat) : Int)) = (m : Int) := by
    rw [show (lim a : Int) - ((p + 2 : Nat) : Int) = (m : Int) by omega]
    exact w64n (by omega)
  rw [e1, inc64 (by omega), bnd_eq (mk_li (by omega) (by omega))]
  rw [show wrap .i64 (((p + 2 : Nat) : Int) - 1) = ((p + 1 : Nat) : Int) by rw [show (((p + 2 : Nat) : Int) - 1) = ((p + 1 : Nat) : Int) by omega]; exact w64n (by omega)]
  rw [show wrap .i64 (((p + 2 : Nat) : Int) - 2) = ((p : Nat) : Int) by rw [show (((p + 2 : Nat) : Int) - 2) = ((p : Nat) : Int) by omega]; exact w64n (by omega)]
  rw [bnd_eq hg7, bnd_eq hg8]
  have hcpy : cpy (li (List.replicate (lim a + 1) 0)) (nt A) = li (limbs A ++ List.replicate (lim a + 1 - lim A) 0) := by
    unfold cpy
    rw [li_len, nt_len, List.length_replicate, List.take_of_length_le (by rw [nt_len]; exact hlimA), li_app]
    congr 1
    simp [li]
  rw [hcpy]
  have hVl : val (limbs V) = V := val_limbs V
  have hVlen : (limbs V).length = p + 2 := hlimV
  refine bnd_iter (fun k st => ∃ o ql : List Nat, st = ((k : Int) - 1, li o, li ql) ∧ k ≤ m + 1 ∧ o.length = lim a + 1 ∧ ql.length = m + 1 ∧ Lt o ∧ Lt ql ∧ val o + V * (pw k * val (ql.drop k)) = A ∧ val o < pw k * V)
    (fun x => ∃ o ql : List Nat, x = (li o, li ql) ∧ o.length = lim a + 1 ∧ ql.length = m + 1 ∧ Lt o ∧ Lt ql ∧ val o + V * val ql = A ∧ val o < V) (m + 1)
    ⟨limbs A ++ List.replicate (lim a + 1 - lim A) 0, List.replicate (m + 1) 0, by rw [show (((m + 1 : Nat) : Int) - 1) = (m : Int) by omega], Nat.le_refl _, by rw [List.length_append, List.length_replicate]; show lim A + (lim a + 1 - lim A) = lim a + 1; omega, by simp, fun x hx => (List.mem_append.1 hx).elim (limbs_lt A x) (Lt.rep _ x), Lt.rep _, by
      rw [List.drop_of_length_le (by simp), val_append, val_rep, val_limbs, Nat.mul_zero, Nat.add_zero]; show A + V * (pw (m + 1) * 0) = A; rw [Nat.mul_zero, Nat.mul_zero, Nat.add_zero], by
      rw [val_append, val_rep, val_limbs, Nat.mul_zero, Nat.add_zero]; exact hAlt⟩ ?_ ?_
  · rintro k st ⟨o, ql, rfl, hk, hol, hql, hlo, hlq, hv, hlt⟩
    cases k with
    | zero =>
      right
      refine ⟨_, by dsimp only; rw [if_neg (by simp)], o, ql, rfl, hol, hql, hlo, hlq, ?_, ?_⟩
      · rw [pw_zero, Nat.one_mul, List.drop_zero] at hv
        exact hv
      · rw [pw_zero, Nat.one_mul] at hlt
        exact hlt
    | succ j =>
      left
      have ej : (((j + 1 : Nat) : Int) - 1) = (j : Int) := by omega
      rw [ej]
      obtain ⟨U, hU⟩ : ∃ U, val (o.drop j) = U := ⟨_, rfl⟩
      have hsplit : val o = val (o.take j) + pw j * U := by
        have h1 := val_append (o.take j) (o.drop j)
        rw [List.take_append_drop, List.length_take, Nat.min_eq_left (by omega), hU, ← pw_def] at h1
        exact h1
      have hUlt : U < 4294967296 * V := by
        rw [pw_succ, Nat.mul_assoc] at hlt
        exact Nat.lt_of_mul_lt_mul_left (a := pw j) (by omega)
      obtain ⟨U2, hU2⟩ : ∃ U2, U / D = U2 := ⟨_, rfl⟩
      have hU2lt : U2 < 4294967296 * (V2 + 1) := by
        rw [← hU2, Nat.div_lt_iff_lt_mul hD0, Nat.mul_assoc]
        have h1 : V < (V2 + 1) * D := by
          have h2 := Nat.div_add_mod V D
          have h3 := Nat.mod_lt V hD0
          rw [hV2] at h2
          rw [Nat.add_mul, Nat.one_mul, Nat.mul_comm V2]
          omega
        have h2 : 4294967296 * V < 4294967296 * ((V2 + 1) * D) := Nat.mul_lt_mul_of_pos_left h1 (by omega)
        omega
      have hget : ∀ i, i ≤ p + 2 → o[j + i]? = some (U / pw i % 4294967296) := by
        intro i hi
        have h1 : o[j + i]? = some (o[j + i]'(by omega)) := List.getElem?_eq_getElem _
        have h2 := get_valP (hlo.drop j) (i := i) (x := o[j + i]'(by omega)) (by rw [List.getElem?_drop]; exact h1)
        rw [hU] at h2
        rw [h1, ← h2]
      have g10 : Ev.get (li o) ((j + (p + 2) : Nat) : Int) = some ((U2 / 4294967296 / 4294967296 % 4294967296 : Nat) : Int) := by
        have h := hget (p + 2) (Nat.le_refl _)
        rw [div_succ2, hD, hU2] at h
        exact get_li h
      have g11 : Ev.get (li o) ((j + (p + 1) : Nat) : Int) = some ((U2 / 4294967296 % 4294967296 : Nat) : Int) := by
        have h := hget (p + 1) (by omega)
        rw [div_succ, hD, hU2] at h
        exact get_li h
      have g15 : Ev.get (li o) ((j + p : Nat) : Int) = some ((U2 % 4294967296 : Nat) : Int) := by
        have h := hget p (by omega)
        rw [hD, hU2] at h
        exact get_li h
      have ehead : bor .u64 (shl .u64 (wrap .u64 ((U2 / 4294967296 / 4294967296 % 4294967296 : Nat) : Int)) 32) (wrap .u64 ((U2 / 4294967296 % 4294967296 : Nat) : Int)) = ((U2 / 4294967296 : Nat) : Int) := by
        rw [wu64n (by omega), wu64n (by omega), shl32 _ (by omega), or64 _ _ (by omega) (by omega)]
        exact congrArg (fun z : Nat => (z : Int)) (head_eq U2 (hi_lt U2 V2 hU2lt hV2lt))
      have htopw : wrap .u64 ((V2 / 4294967296 : Nat) : Int) = ((V2 / 4294967296 : Nat) : Int) := wu64n (by omega)
      obtain ⟨q, hq⟩ : ∃ q, q = U / V := ⟨_, rfl⟩
      have hqB : q < 4294967296 := by
        rw [hq, Nat.div_lt_iff_lt_mul hV0]
        exact hUlt
      have hqV : q * V ≤ U := by rw [hq]; exact Nat.div_mul_le_self _ _
      have hV2D : V2 * D ≤ V := by rw [← hV2]; exact Nat.div_mul_le_self _ _
      have hq2 : q * V2 ≤ U2 := by
        rw [← hU2, Nat.le_div_iff_mul_le hD0, Nat.mul_assoc]
        exact Nat.le_trans (Nat.mul_le_mul_left _ hV2D) hqV
      obtain ⟨g, hgi, hg1, hg2, hg3⟩ := guess_ok (li o) ((j + p : Nat) : Int) (U2 % 4294967296) (V2 / 4294967296) (V2 % 4294967296) (U2 / 4294967296) q g15 (by omega) (by omega) (by omega) (by omega) (by omega)
        (by
          rw [Nat.le_div_iff_mul_le (by omega), Nat.le_div_iff_mul_le (by omega), Nat.mul_assoc]
          refine Nat.le_trans (Nat.mul_le_mul_left _ ?_) hq2
          exact Nat.div_mul_le_self _ _)
        (by
          intro g rest hgr hc
          rcases hc with hc | hc
          · omega
          · have h1 : U2 < g * V2 := by
              have h2 : g * V2 = g * (V2 / 4294967296) * 4294967296 + g * (V2 % 4294967296) := by
                rw [Nat.mul_assoc, ← Nat.mul_add]
                congr 1
                omega
              rw [h2]
              omega
            rw [hq, Nat.div_lt_iff_lt_mul hV0]
            have h3 : U < (U2 + 1) * D := by
              have h4 := Nat.div_add_mod U D
              have h5 := Nat.mod_lt U hD0
              rw [hU2] at h4
              rw [Nat.add_mul, Nat.one_mul, Nat.mul_comm U2]
              omega
            have h6 : (U2 + 1) * D ≤ g * V2 * D := Nat.mul_le_mul_right _ h1
            have h7 : g * V2 * D ≤ g * V := by rw [Nat.mul_assoc]; exact Nat.mul_le_mul_left _ hV2D
            omega)
      have hnear := guess_near U V D q g hD0 hV0 (by omega) hg2 (by
        rw [hV2, hU2]
        have h1 : V2 / 4294967296 * 4294967296 + V2 % 4294967296 = V2 := by omega
        rw [h1] at hg3
        omega) hq hg1
      have hzero : ∀ i, j + ((limbs V).length + 1) ≤ i → i < o.length → o[i]? = some 0 := by
        intro i h1 h2
        have h3 : o[i]? = some o[i] := List.getElem?_eq_getElem h2
        have h4 := get_val hlo h3
        have h5 : val o < 4294967296 ^ i := by
          refine Nat.lt_of_lt_of_le hlt ?_
          refine Nat.le_trans (Nat.mul_le_mul_left _ (Nat.le_of_lt hVlt)) ?_
          rw [← hD2, ← pw_add, pw_def]
          exact Nat.pow_le_pow_right (by omega) (by omega)
        rw [h3, h4, Nat.div_eq_of_lt h5]
      obtain ⟨o', hstep, hlo', hol', hv', hlt'⟩ := step_ok o (limbs V) j q g V hlo (limbs_lt V) hVl hV0 (by omega) (by omega) hzero (by rw [hU]; exact hq) hnear hg2 (by omega)
      rw [bnd_id, hVlen] at hstep
      rw [← pw_def] at hv' hlt'
      simp only [htopw, show wrap .u64 ((V2 % 4294967296 : Nat) : Int) = ((V2 % 4294967296 : Nat) : Int) from wu64n (by omega)] at hgi
      have hput : put (li ql) (j : Int) (q : Int) = some (li (ql.set j q)) := put_li (by omega)
      have ea : wrap .i64 ((j : Int) + ((p + 2 : Nat) : Int)) = ((j + (p + 2) : Nat) : Int) := by
        rw [← Int.natCast_add]
        exact w64n (by omega)
      have eb : wrap .i64 (((j + (p + 2) : Nat) : Int) - 1) = ((j + (p + 1) : Nat) : Int) := by
        rw [show (((j + (p + 2) : Nat) : Int) - 1) = ((j + (p + 1) : Nat) : Int) by omega]
        exact w64n (by omega)
      have ec : wrap .i64 (((j + (p + 2) : Nat) : Int) - 2) = ((j + p : Nat) : Int) := by
        rw [show (((j + (p + 2) : Nat) : Int) - 2) = ((j + p : Nat) : Int) by omega]
        exact w64n (by omega)
      have ed : wrap .i64 ((j : Int) - 1) = (j : Int) - 1 := w64 (by omega) (by omega)
      have hq0 : (V2 / 4294967296 : Nat) ≠ 0 := by omega
      have etd : wrap .u64 (Int.tdiv ((U2 / 4294967296 : Nat) : Int) ((V2 / 4294967296 : Nat) : Int)) = ((U2 / 4294967296 / (V2 / 4294967296) : Nat) : Int) := by
        rw [tdivn]
        refine wu64n ?_
        have := Nat.div_le_self (U2 / 4294967296) (V2 / 4294967296)
        omega
      have ew8 : wrap .u64 ((V2 % 4294967296 : Nat) : Int) = ((V2 % 4294967296 : Nat) : Int) := wu64n (by omega)
      refine ⟨_, j, ?_, by omega, o', ql.set j q, rfl, by omega, by omega, by simpa using hql, hlo', hlq.set hqB, ?_, hlt'⟩
      · dsimp only
        rw [if_pos (by simp)]
        simp only [ea, eb, ec, htopw, ew8] at hstep ⊢
        rw [bnd_eq g10, bnd_eq g11, bnd_eq (chk_t (by omega)), bnd_eq (chk_t (by omega)), ehead, etd, tmodn]
        rw [bnd_eq hgi]
        rw [show nt V = li (limbs V) from rfl, bnd_eq hstep]
        dsimp only
        rw [w32n hqB, bnd_eq hput, ed]
      · have h1 : (ql.set j q)[j]? = some q := by rw [List.getElem?_set_self (by omega)]
        rw [val_drop h1, List.drop_set_of_lt (Nat.lt_add_one j), ← hv, ← hv', pw_succ, Nat.mul_add, Nat.mul_add, Nat.mul_assoc (pw j)]
        have h2 : V * (pw j * q) = pw j * (q * V) := by rw [Nat.mul_left_comm, Nat.mul_comm V]
        omega
  · rintro x ⟨o, ql, rfl, hol, hql, hlo, hlq, hv, hlt⟩
    dsimp only
    have hqv : val ql = a / b := by
      have h1 : A / V = val ql := by rw [← hv, Nat.add_mul_div_left _ _ hV0, Nat.div_eq_of_lt hlt, Nat.zero_add]
      rw [← h1, ← hA, ← hV, Nat.mul_div_mul_right _ _ hs0]
    have hrv : val o = a % b * 2 ^ s := by
      have h1 : A % V = val o := by rw [← hv, Nat.add_mul_mod_self_left, Nat.mod_eq_of_lt hlt]
      rw [← h1, ← hA, ← hV, Nat.mul_mod_mul_right]
    have hlr : lim (a % b * 2 ^ s) < 1000000000 := by
      rw [← hrv]
      have := lim_mono (Nat.le_of_lt hlt)
      omega
    rw [bnd_eq (trim_ok _ hlq (by omega)), bnd_eq (trim_ok _ hlo (by omega)), hqv, hrv, bnd_eq (Shr_ok _ s hlr (by omega)), Nat.mul_div_cancel _ hs0]
end Go.Sh
