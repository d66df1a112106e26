/- Plain words: the reference's division and greatest common divisor of texts. -/
import Derived.Test.YtfklgafihefpeaaPn
set_option linter.unusedVariables false
set_option linter.unusedSimpArgs false
namespace Go.Sh
open Go.Ev Go.Nm

theorem cat_ok {a b : Str} (h : a.length + b.length < 1000000000) : cat a b = some (a ++ b) := by
  unfold cat
  rw [if_pos (by omega)]

theorem pv_dec_snoc (r : Nat) (c : UInt8) : pv (dec r ++ [c]) = 10 * r + (c.toNat - 48) := by rw [pv_snoc, pv_dec]

theorem divmod_in (n b : Nat) (hb : b ≠ 0) (hn : n < 10 * b) (hl : (dec n).length < 1000000000) : iter (σ := Str × Int) (ξ := Str × Int) (fun s6 =>
            bnd (ref01_Cmp s6.1 (dec b)) fun v7 =>
            lt (α := Bool) (if (decide (0 ≤ v7)) = true then (decide (s6.2 < 10)) else false) fun x8 =>
            if x8 = true then
              bnd (ref01_Sub s6.1 (dec b)) fun v9 =>
              some (.inl (v9, (wrap .i64 (s6.2 + 1))))
            else
              some (.inr (s6.1, s6.2))) (dec n, 0) = some (dec (n % b), ((n / b : Nat) : Int)) := by
  refine iter_eqI (fun k s => ∃ q r : Nat, s = (dec r, (q : Int)) ∧ k = r ∧ q * b + r = n) _ ?_ (k := n) ⟨0, n, rfl, rfl, by omega⟩
  rintro k s ⟨q, r, rfl, rfl, hq⟩
  dsimp only
  rw [bnd_eq (rCmp_ok k b), lt_s]
  by_cases h : b ≤ k
  · left
    have hq10 : q < 10 := by
      refine Nat.lt_of_not_le fun h2 => ?_
      have := Nat.mul_le_mul_right b h2
      omega
    have hdl : (dec k).length < 1000000000 := by
      have h1 := dec_len_le (n := k) (j := (dec n).length) (by have := dec_lt n; have := Nat.zero_le (q * b); omega) (dec_pos n)
      omega
    have hc : ¬ cmpI k b < 0 := fun h2 => by have := cmpI_neg.1 h2; omega
    rw [if_pos (by rw [if_pos (by simp only [decide_eq_true_eq]; omega)]; simp only [decide_eq_true_eq]; omega), bnd_eq (rSub_ok k b h hdl), inc64 (by omega)]
    exact ⟨_, k - b, rfl, by omega, q + 1, k - b, rfl, rfl, by rw [Nat.add_mul, Nat.one_mul]; omega⟩
  · right
    have hc : cmpI k b < 0 := cmpI_neg.2 (by omega)
    rw [if_neg (by rw [if_neg (by simp only [decide_eq_true_eq]; omega)]; simp)]
    have h1 : n / b = q := by
      rw [← hq, Nat.add_comm, Nat.add_mul_div_right _ _ (by omega), Nat.div_eq_of_lt (by omega), Nat.zero_add]
    have h2 : n % b = k := by
      rw [← hq, Nat.add_comm, Nat.add_mul_mod_self_right, Nat.mod_eq_of_lt (by omega)]
    rw [h1, h2]

theorem rDivMod_ok (a b : Nat) (hb : b ≠ 0) (ha : (dec a).length < 100000000) : ref01_DivMod (dec a) (dec b) = some (dec (a / b), dec (a % b)) := by
  unfold ref01_DivMod
  rw [bnd_eq (mk0 (by omega) (by omega))]
  refine bnd_iter (fun k s => ∃ (i r q : Nat) (o : List Nat), s = (dec r, (i : Int), li o) ∧ i + k = (dec a).length ∧ o.length = i ∧ (ofCodes (li o)).all isD = true ∧ pv (ofCodes (li o)) = q ∧ r < b ∧ q * b + r = pv ((dec a).take i))
    (fun x => ∃ (r q : Nat) (o : List Nat), x = (dec r, li o) ∧ o.length = (dec a).length ∧ (ofCodes (li o)).all isD = true ∧ pv (ofCodes (li o)) = q ∧ r < b ∧ q * b + r = a) (dec a).length
    ⟨0, 0, 0, [], rfl, by omega, rfl, rfl, rfl, by omega, by simp [pv]⟩ ?_ ?_
  · rintro k s ⟨i, r, q, o, rfl, hik, hoi, hall, hq, hr, hv⟩
    dsimp only
    by_cases hi : i < (dec a).length
    · left
      have hg : (dec a)[i]? = some (dec a)[i] := List.getElem?_eq_getElem hi
      revert hg
      generalize (dec a)[i] = c
      intro hg
      have hsub : sub (dec a) (i : Int) ((i + 1 : Nat) : Int) = some [c] := by
        rw [sub_str (by omega) (by omega), List.drop_take, show i + 1 - i = 1 by omega]
        obtain ⟨h1, rfl⟩ := List.getElem?_eq_some_iff.1 hg
        rw [List.drop_eq_getElem_cons h1]
        rfl
      have hc : isD c = true := List.all_eq_true.1 (dec_all a) c (List.mem_of_getElem? hg)
      have hcn := (isD_iff c).1 hc
      have hvt := pv_take_succ hg
      have hra : r ≤ a := by
        have h1 : pv ((dec a).take i) ≤ a := by
          have h2 : pv ((dec a).take i ++ (dec a).drop i) = a := by rw [List.take_append_drop, pv_dec]
          rw [pv_app] at h2
          have h3 : pv ((dec a).take i) * 1 ≤ pv ((dec a).take i) * 10 ^ ((dec a).drop i).length := Nat.mul_le_mul_left _ (Nat.pow_pos (by omega))
          omega
        have := Nat.zero_le (q * b)
        omega
      have hrl : (dec r).length ≤ (dec a).length := dec_len_le (by have := dec_lt a; omega) (dec_pos a)
      have hcat := cat_ok (a := dec r) (b := [c]) (by simp; omega)
      have htr := rTrim_ok (dec r ++ [c]) (by rw [List.all_append, dec_all]; simp [hc]) (by simp)
      rw [pv_dec_snoc] at htr
      obtain ⟨d, hd⟩ : ∃ d, c.toNat - 48 = d := ⟨_, rfl⟩
      rw [hd] at htr hvt
      have hnl : (dec (10 * r + d)).length < 1000000000 := by
        have h1 := dec_len_le (n := 10 * r + d) (j := (dec r).length + 1) (by rw [Nat.pow_succ]; have := dec_lt r; omega) (by omega)
        omega
      have hin := divmod_in (10 * r + d) b hb (by omega) hnl
      have hq10 : (10 * r + d) / b < 10 := Nat.div_lt_of_lt_mul (by rw [Nat.mul_comm]; omega)
      have hmod := Nat.mod_lt (10 * r + d) (Nat.pos_iff_ne_zero.2 hb)
      have hdm := Nat.div_add_mod (10 * r + d) b
      rw [if_pos (by simp; omega), show wrap .i64 ((i : Int) + 1) = ((i + 1 : Nat) : Int) from inc64 (by omega), bnd_eq hsub, bnd_eq hcat, bnd_eq htr, bnd_eq hin]
      generalize (10 * r + d) / b = e at *
      generalize (10 * r + d) % b = f at *
      have hw2 : wrap .u8 (wrap .i64 (48 + (e : Int))) = ((48 + e : Nat) : Int) := by
        rw [show (48 : Int) + (e : Int) = ((48 + e : Nat) : Int) by omega, w64n (by omega), wu8n (by omega)]
      have happ : app 1 (li o) ([((48 + e : Nat) : Int)] : List Int) = some (li (o ++ [48 + e])) := app_li (m := [48 + e]) (by simp; omega) (by simp; omega)
      rw [hw2, bnd_eq happ]
      refine ⟨_, k - 1, rfl, by omega, i + 1, f, 10 * q + e, o ++ [48 + e], rfl, by omega, by simp [hoi], ?_, ?_, hmod, ?_⟩
      · rw [ofCodes_li, List.all_append, hall, ofCodes_li1]; simp [cd_isD hq10]
      · rw [ofCodes_li, ofCodes_li1, pv_snoc, hq, cd_nat hq10]; omega
      · rw [hvt, ← hv, Nat.add_mul, Nat.mul_assoc, Nat.mul_comm e b]
        omega
    · right
      have hie : i = (dec a).length := by omega
      rw [if_neg (by simp; omega)]
      refine ⟨_, rfl, r, q, o, rfl, by omega, hall, hq, hr, ?_⟩
      rw [hv, hie, List.take_length, pv_dec]
  · rintro x ⟨r, q, o, rfl, hol, hall, hq, hr, hv⟩
    dsimp only
    have hne : ofCodes (li o) ≠ [] := fun h => by
      have h1 := ofCodes_len o
      rw [h] at h1
      have := dec_pos a
      simp at h1
      omega
    rw [bnd_eq (rTrim_ok _ hall hne), hq]
    have h1 : a / b = q := by
      rw [← hv, Nat.add_comm, Nat.add_mul_div_right _ _ (by omega), Nat.div_eq_of_lt hr, Nat.zero_add]
    have h2 : a % b = r := by
      rw [← hv, Nat.add_comm, Nat.add_mul_mod_self_right, Nat.mod_eq_of_lt hr]
    rw [h1, h2]

theorem mod_half (x y : Nat) (hy : 0 < y) (h : y ≤ x) : 2 * (y * (x % y)) ≤ x * y := by
  have h1 := Nat.mod_lt x hy
  have h2 := Nat.div_add_mod x y
  have h3 : 1 ≤ x / y := Nat.div_pos h hy
  have h4 : y * 1 ≤ y * (x / y) := Nat.mul_le_mul_left y h3
  rw [show 2 * (y * (x % y)) = y * (2 * (x % y)) by rw [Nat.mul_left_comm], Nat.mul_comm x y]
  exact Nat.mul_le_mul_left y (by omega)

theorem ten_two (k : Nat) : 10 ^ k ≤ 2 ^ (4 * k) := by
  rw [Nat.pow_mul]
  exact Nat.pow_le_pow_left (by omega) k

theorem prod_lt (a b K : Nat) (ha : (dec a).length ≤ K) (hb : (dec b).length ≤ K) : a * b < 2 ^ (8 * K) := by
  have h1 : a < 10 ^ K := Nat.lt_of_lt_of_le (dec_lt a) (Nat.pow_le_pow_right (by omega) ha)
  have h2 : b < 10 ^ K := Nat.lt_of_lt_of_le (dec_lt b) (Nat.pow_le_pow_right (by omega) hb)
  have h3 : a * b < 10 ^ K * 10 ^ K := Nat.mul_lt_mul_of_lt_of_le h1 (Nat.le_of_lt h2) (Nat.pow_pos (by omega))
  have h4 := Nat.pow_add 10 K K
  have h5 := ten_two (K + K)
  rw [show 4 * (K + K) = 8 * K by omega] at h5
  exact Nat.lt_of_lt_of_le h3 (by rw [← h4]; exact h5)

theorem rGcd_ok (a b : Nat) (ha : (dec a).length ≤ 2000) (hb : (dec b).length ≤ 2000) : ref01_Gcd (dec a) (dec b) = some (dec (Nat.gcd a b)) := by
  unfold ref01_Gcd
  obtain ⟨M, hM, hltM⟩ : ∃ M, M ≤ 16000 ∧ a * b < 2 ^ M := ⟨8 * max (dec a).length (dec b).length, by omega, prod_lt a b _ (by omega) (by omega)⟩
  refine bnd_iter (fun k s => ∃ x y i : Nat, s = (dec x, dec y, (i : Int)) ∧ k = y ∧ (dec x).length ≤ 2000 ∧ (dec y).length ≤ 2000 ∧ Nat.gcd x y = Nat.gcd a b ∧ (i = 0 ∧ x = a ∧ y = b ∨ (1 ≤ i ∧ y ≤ x ∧ x * y * 2 ^ (i - 1) < 2 ^ M)))
    (fun r => r = dec (Nat.gcd a b)) b ⟨a, b, 0, rfl, rfl, ha, hb, rfl, .inl ⟨rfl, rfl, rfl⟩⟩ ?_ (fun x hx => by rw [hx])
  rintro k s ⟨x, y, i, rfl, rfl, hx, hy, hg, hi⟩
  dsimp only
  rw [lt_s]
  by_cases hk : k = 0
  · right
    subst hk
    rw [show dec 0 = [48] from dec_small (by omega)]
    rw [if_neg (by simp)]
    refine ⟨_, rfl, ?_⟩
    rw [Nat.gcd_zero_right] at hg
    rw [hg]
  · left
    have hi2 : i < 20000 := by
      rcases hi with hi | ⟨h1, h2, h3⟩
      · omega
      · have hxy : 1 ≤ x * k := Nat.mul_pos (by omega) (by omega)
        have h4 : 1 * 2 ^ (i - 1) ≤ x * k * 2 ^ (i - 1) := Nat.mul_le_mul_right _ hxy
        have h5 : 2 ^ (i - 1) < 2 ^ M := by omega
        have := (Nat.pow_lt_pow_iff_right (by omega)).1 h5
        omega
    have hne : dec k ≠ [48] := fun h => hk (dec_inj (h.trans (show [48] = dec 0 from (dec_small (show 0 < 10 by omega)).symm)))
    have hml := Nat.mod_lt x (Nat.pos_iff_ne_zero.2 hk)
    rw [if_pos (by rw [if_pos (by simp; omega)]; simpa using hne), bnd_eq (rDivMod_ok x k hk (by omega)), inc64 (by omega)]
    refine ⟨_, x % k, rfl, hml, k, x % k, i + 1, rfl, rfl, hy, ?_, ?_, ?_⟩
    · exact Nat.le_trans (dec_len_le (n := x % k) (j := (dec k).length) (by have := dec_lt k; omega) (dec_pos k)) hy
    · rw [← hg, Nat.gcd_comm x k, Nat.gcd_rec k x, Nat.gcd_comm]
    · right
      refine ⟨by omega, by omega, ?_⟩
      rw [Nat.add_sub_cancel]
      rcases hi with ⟨rfl, rfl, rfl⟩ | ⟨h1, h2, h3⟩
      · have h4 : k * (x % k) ≤ k * x := Nat.mul_le_mul_left k (Nat.mod_le x k)
        rw [Nat.mul_comm k x] at h4
        rw [Nat.pow_zero, Nat.mul_one]
        omega
      · have h4 := mod_half x k (Nat.pos_iff_ne_zero.2 hk) h2
        obtain ⟨j, rfl⟩ : ∃ j, i = j + 1 := ⟨i - 1, by omega⟩
        rw [Nat.add_sub_cancel] at h3
        rw [Nat.pow_succ, Nat.mul_comm (2 ^ j) 2, ← Nat.mul_assoc, Nat.mul_comm _ 2]
        exact Nat.lt_of_le_of_lt (Nat.mul_le_mul_right _ h4) h3
end Go.Sh
