/- Plain facts: decimal texts. -/
import Derived.Test.YtfklgafihefpeaaPl
set_option linter.unusedVariables false
set_option linter.unusedSimpArgs false
namespace Go.Sh
open Go.Ev Go.Nm

def cd (d : Nat) : UInt8 := UInt8.ofNat (48 + d)
theorem cd_nat {d : Nat} (h : d < 10) : (cd d).toNat = 48 + d := by
  unfold cd
  rw [UInt8.toNat_ofNat']
  omega
theorem cd_isD {d : Nat} (h : d < 10) : isD (cd d) = true := by rw [isD_iff, cd_nat h]; omega
theorem cd_of {c : UInt8} (h : isD c = true) : cd (c.toNat - 48) = c := by
  have := (isD_iff c).1 h
  unfold cd
  rw [show 48 + (c.toNat - 48) = c.toNat by omega]
  simp

theorem ofCodes_app (a b : List Int) : ofCodes (a ++ b) = ofCodes a ++ ofCodes b := by simp [ofCodes]
theorem ofCodes_li1 (d : Nat) : ofCodes (li [48 + d]) = [cd d] := rfl

theorem dec_small {d : Nat} (h : d < 10) : dec d = [cd d] := by
  unfold dec
  by_cases h0 : d = 0
  · rw [if_pos h0, h0]; rfl
  · rw [if_neg h0, dl_pos h0, Nat.div_eq_of_lt h, dl0, Nat.mod_eq_of_lt h]; rfl
theorem dec_snoc {q d : Nat} (hq : q ≠ 0) (hd : d < 10) : dec (10 * q + d) = dec q ++ [cd d] := by
  unfold dec
  rw [if_neg (by omega), if_neg hq, dl_pos (by omega), show (10 * q + d) % 10 = d by omega, show (10 * q + d) / 10 = q by omega, List.reverse_cons, li_app, ofCodes_app, ofCodes_li1]

/-- Every number is a digit, or a number with a digit behind it. -/
theorem ten_rec {P : Nat → Prop} (h1 : ∀ d, d < 10 → P d) (h2 : ∀ q d, q ≠ 0 → d < 10 → P q → P (10 * q + d)) (n : Nat) : P n := by
  induction n using Nat.strongRecOn with
  | _ n ih =>
    by_cases h : n < 10
    · exact h1 n h
    · have := h2 (n / 10) (n % 10) (by omega) (by omega) (ih (n / 10) (by omega))
      rwa [show 10 * (n / 10) + n % 10 = n by omega] at this

theorem dec_all (n : Nat) : (dec n).all isD = true := by
  refine ten_rec (P := fun n => (dec n).all isD = true) (fun d h => ?_) (fun q d hq hd ih => ?_) n
  · rw [dec_small h]; simp [cd_isD h]
  · rw [dec_snoc hq hd, List.all_append, ih]; simp [cd_isD hd]
theorem dec_ne (n : Nat) : dec n ≠ [] := by
  refine ten_rec (P := fun n => dec n ≠ []) (fun d h => ?_) (fun q d hq hd ih => ?_) n
  · rw [dec_small h]; simp
  · rw [dec_snoc hq hd]; simp
theorem pv1 (c : UInt8) : pv [c] = c.toNat - 48 := by simp [pv, pf]
theorem pv_dec (n : Nat) : pv (dec n) = n := by
  refine ten_rec (P := fun n => pv (dec n) = n) (fun d h => ?_) (fun q d hq hd ih => ?_) n
  · rw [dec_small h, pv1, cd_nat h]; omega
  · rw [dec_snoc hq hd, pv_snoc, ih, cd_nat hd]; omega
theorem dec_inj {a b : Nat} (h : dec a = dec b) : a = b := by rw [← pv_dec a, h, pv_dec]
theorem dec_lt (n : Nat) : n < 10 ^ (dec n).length := by
  have := pv_lt _ (dec_all n)
  rwa [pv_dec] at this
theorem dec_pos (n : Nat) : 0 < (dec n).length := List.length_pos_iff.2 (dec_ne n)
theorem dec_ge {n : Nat} (h : n ≠ 0) : 10 ^ ((dec n).length - 1) ≤ n := by
  revert h
  refine ten_rec (P := fun n => n ≠ 0 → 10 ^ ((dec n).length - 1) ≤ n) (fun d h h0 => ?_) (fun q d hq hd ih h0 => ?_) n
  · rw [dec_small h]; simp; omega
  · have h1 := ih hq
    have h2 := dec_pos q
    rw [dec_snoc hq hd, List.length_append, show (dec q).length + [cd d].length - 1 = ((dec q).length - 1) + 1 by simp; omega, Nat.pow_succ]
    generalize 10 ^ ((dec q).length - 1) = P at *
    omega
theorem dec_len_le {n j : Nat} (h : n < 10 ^ j) (hj : 0 < j) : (dec n).length ≤ j := by
  by_cases h0 : n = 0
  · rw [h0, dec_small (by omega)]; simp; omega
  · have h1 := dec_ge h0
    refine Nat.le_of_not_lt fun h2 => ?_
    have h3 : 10 ^ j ≤ 10 ^ ((dec n).length - 1) := Nat.pow_le_pow_right (by omega) (by omega)
    omega
theorem dl_dec {n : Nat} (h : n ≠ 0) : (dec n).length = (dl n).length := by
  unfold dec
  rw [if_neg h]
  simp [ofCodes, li]
theorem dl_len_le (n : Nat) : (dl n).length ≤ (dec n).length := by
  by_cases h : n = 0
  · simp [h, dl0]
  · rw [dl_dec h]; exact Nat.le_refl _

theorem dec_pv : ∀ s : Str, s ≠ [] → s.all isD = true → (s.length ≤ 1 ∨ s.head? ≠ some 48) → dec (pv s) = s := by
  have main : ∀ k (s : Str), s.length = k → s ≠ [] → s.all isD = true → (s.length ≤ 1 ∨ s.head? ≠ some 48) → dec (pv s) = s := by
    intro k
    induction k with
    | zero => intro s hk h0; exact absurd (List.length_eq_zero_iff.1 hk) h0
    | succ k ih =>
      intro s hk h0 hall hh
      rcases snoc s with rfl | ⟨t, c, rfl⟩
      · exact absurd rfl h0
      · rw [List.all_append, Bool.and_eq_true] at hall
        have hc : isD c = true := by simpa using hall.2
        have hcn := (isD_iff c).1 hc
        cases t with
        | nil =>
          show dec (pv [c]) = [c]
          rw [pv1, dec_small (by omega), cd_of hc]
        | cons a t =>
          have hh2 : (a :: t).head? ≠ some 48 := by
            rcases hh with hh | hh
            · simp at hh
            · simpa using hh
          have h1 := ih (a :: t) (by simpa using hk) (by simp) hall.1 (.inr hh2)
          have hne : pv (a :: t) ≠ 0 := fun h => by
            rw [h, dec_small (by omega)] at h1
            rw [← h1] at hh2
            exact hh2 rfl
          rw [pv_snoc, dec_snoc hne (by omega), h1, cd_of hc]
  exact fun s => main s.length s rfl

theorem pv_cons (c : UInt8) (s : Str) : pv (c :: s) = (c.toNat - 48) * 10 ^ s.length + pv s := by
  rw [pv, List.foldl_cons, pf_fold]
  simp [pf]

theorem bytesLess_pv : ∀ a b : Str, a.length = b.length → a.all isD = true → b.all isD = true → Op.bytesLess a b = decide (pv a < pv b)
  | [], [], _, _, _ => by simp [Op.bytesLess]
  | [], _ :: _, h, _, _ => by simp at h
  | _ :: _, [], h, _, _ => by simp at h
  | x :: a, y :: b, h, ha, hb => by
    rw [List.all_cons, Bool.and_eq_true] at ha hb
    have hl : a.length = b.length := by simpa using h
    have ih := bytesLess_pv a b hl ha.2 hb.2
    have h1 := pv_lt a ha.2
    have h2 := pv_lt b hb.2
    have hx := (isD_iff x).1 ha.1
    have hy := (isD_iff y).1 hb.1
    rw [Op.bytesLess, ih, pv_cons, pv_cons]
    rw [hl] at h1 ⊢
    generalize 10 ^ b.length = P at *
    obtain ⟨p, hp⟩ : ∃ p, x.toNat = 48 + p := ⟨x.toNat - 48, by omega⟩
    obtain ⟨q, hq⟩ : ∃ q, y.toNat = 48 + q := ⟨y.toNat - 48, by omega⟩
    rw [show x.toNat - 48 = p by omega, show y.toNat - 48 = q by omega]
    have hlt : x < y ↔ p < q := by rw [UInt8.lt_iff_toNat_lt]; omega
    have heq : x = y ↔ p = q := by rw [← UInt8.toNat_inj]; omega
    by_cases c1 : p < q
    · have : (p + 1) * P ≤ q * P := Nat.mul_le_mul_right P c1
      rw [Nat.add_mul, Nat.one_mul] at this
      have c2 : p * P + pv a < q * P + pv b := by omega
      simp [hlt, c1, c2]
    · by_cases c2 : p = q
      · subst c2
        have := heq.2 rfl
        subst this
        simp
      · have : (q + 1) * P ≤ p * P := Nat.mul_le_mul_right P (by omega)
        rw [Nat.add_mul, Nat.one_mul] at this
        have c3 : ¬ p * P + pv a < q * P + pv b := by omega
        simp [hlt, heq, c1, c2, c3]

theorem dec_get : ∀ (i n : Nat), i < (dec n).length → (dec n)[(dec n).length - 1 - i]? = some (cd (n / 10 ^ i % 10))
  | 0, n, h => by
    rw [Nat.pow_zero, Nat.div_one]
    by_cases hn : n < 10
    · rw [dec_small hn, Nat.mod_eq_of_lt hn]; rfl
    · have := dec_snoc (q := n / 10) (d := n % 10) (by omega) (by omega)
      rw [show 10 * (n / 10) + n % 10 = n by omega] at this
      rw [this, List.length_append, show (dec (n / 10)).length + [cd (n % 10)].length - 1 - 0 = (dec (n / 10)).length by simp]
      simp
  | i + 1, n, h => by
    by_cases hn : n < 10
    · rw [dec_small hn] at h
      simp at h
    · have := dec_snoc (q := n / 10) (d := n % 10) (by omega) (by omega)
      rw [show 10 * (n / 10) + n % 10 = n by omega] at this
      rw [this, List.length_append] at h ⊢
      have hi : i < (dec (n / 10)).length := by simpa using h
      have ih := dec_get i (n / 10) hi
      rw [show (dec (n / 10)).length + [cd (n % 10)].length - 1 - (i + 1) = (dec (n / 10)).length - 1 - i by simp; omega, List.getElem?_append_left (by omega), ih, Nat.div_div_eq_div_mul, Nat.pow_succ, Nat.mul_comm 10]
end Go.Sh
