/- Plain words: the reference's texts of digits. -/
import Derived.Test.YtfklgafihefpeaaPm
set_option linter.unusedVariables false
set_option linter.unusedSimpArgs false
namespace Go.Sh
open Go.Ev Go.Nm

theorem get_str {s : Str} {i : Nat} {c : UInt8} (h : s[i]? = some c) : Ev.get s (i : Int) = some c := by
  unfold Ev.get
  rw [if_pos (by omega), Int.toNat_natCast]
  exact h

theorem rTrim_ok (s : Str) (hall : s.all isD = true) (h0 : s ≠ []) : ref01_Trim s = some (dec (pv s)) := by
  unfold ref01_Trim
  refine bnd_iter (fun k t => t.length = k ∧ t ≠ [] ∧ t.all isD = true ∧ pv t = pv s) (fun x => x = dec (pv s)) s.length ⟨rfl, h0, hall, rfl⟩ ?_ (fun x hx => by rw [hx])
  rintro k t ⟨hk, ht0, hta, htv⟩
  cases t with
  | nil => exact absurd rfl ht0
  | cons c t =>
    have hg : Ev.get (c :: t) 0 = some c := rfl
    by_cases h1 : 1 < (c :: t).length
    · rw [if_pos (by simp only [decide_eq_true_eq]; omega), hg, bnd_s, bnd_s]
      by_cases h2 : c.toNat = 48
      · left
        have hc : c = 48 := by rw [← UInt8.toNat_inj]; exact h2
        have hs : sub (c :: t) ((1 : Nat) : Int) ((c :: t).length : Nat) = some t := by
          rw [sub_str (by omega) (by omega), List.take_length]
          rfl
        have ht1 : t ≠ [] := fun h => by subst h; simp at h1
        rw [List.all_cons, Bool.and_eq_true] at hta
        refine ⟨t, t.length, ?_, by rw [← hk]; simp, rfl, ht1, hta.2, ?_⟩
        · rw [if_pos (by simp [h2]), show (1 : Int) = ((1 : Nat) : Int) from rfl, bnd_eq hs]
        · rw [← htv, pv_cons, h2]; simp
      · right
        rw [if_neg (by simp; omega)]
        refine ⟨_, rfl, ?_⟩
        rw [← htv, dec_pv _ ht0 hta (.inr ?_)]
        intro h3
        have h4 : c = 48 := by simpa using h3
        exact h2 (by rw [h4]; rfl)
    · right
      rw [if_neg (by simp only [decide_eq_true_eq]; omega), bnd_s, if_neg (by simp)]
      refine ⟨_, rfl, ?_⟩
      rw [← htv, dec_pv _ ht0 hta (.inl (by omega))]

/-- What digits make, the lowest first. -/
def nv : List Nat → Nat
  | [] => 0
  | d :: l => d + 10 * nv l
theorem nv_snoc (l : List Nat) (d : Nat) : nv (l ++ [d]) = nv l + 10 ^ l.length * d := by
  induction l with
  | nil => simp [nv]
  | cons a l ih =>
    rw [List.cons_append, nv, ih, nv, List.length_cons, Nat.pow_succ, Nat.mul_add, Nat.mul_comm (10 ^ l.length) 10, Nat.mul_assoc]
    omega
theorem nv_lt : ∀ (l : List Nat), (∀ x ∈ l, x < 10) → nv l < 10 ^ l.length
  | [], _ => by simp [nv]
  | d :: l, h => by
    have h1 := nv_lt l (fun x hx => h x (List.mem_cons_of_mem _ hx))
    have h2 := h d List.mem_cons_self
    rw [nv, List.length_cons, Nat.pow_succ]
    generalize 10 ^ l.length = P at *
    omega
theorem nv_drop {l : List Nat} {i x : Nat} (h : l[i]? = some x) : nv (l.drop i) = x + 10 * nv (l.drop (i + 1)) := by
  obtain ⟨h1, rfl⟩ := List.getElem?_eq_some_iff.1 h
  rw [List.drop_eq_getElem_cons h1, nv]

theorem mk0 {b n : Nat} (h : b * n ≤ 140737488355328) (h2 : n ≤ 1099511627776) : mk b 0 (n : Int) (0 : Int) = some (li []) := by
  unfold Ev.mk
  rw [if_pos ⟨by omega, by omega, by rw [← Int.natCast_mul]; omega, by omega⟩]
  rfl
theorem ofCodes_li (a b : List Nat) : ofCodes (li (a ++ b)) = ofCodes (li a) ++ ofCodes (li b) := by rw [li_app, ofCodes_app]
theorem ofCodes_len (a : List Nat) : (ofCodes (li a)).length = a.length := by simp [ofCodes, li]

theorem written_ok (l : List Nat) (hl : ∀ x ∈ l, x < 10) (hlen : l.length < 1000000000) : ref01_written (li l) = some (dec (nv l)) := by
  unfold ref01_written
  rw [li_len, show wrap .i64 ((l.length : Int) + 1) = ((l.length + 1 : Nat) : Int) from inc64 (by omega), bnd_eq (mk0 (by omega) (by omega))]
  have hw : wrap .i64 ((l.length : Int) - 1) = (l.length : Int) - 1 := w64 (by omega) (by omega)
  rw [hw]
  refine bnd_iter (fun k s => ∃ o : List Nat, s = ((k : Int) - 1, li o) ∧ o.length + k = l.length ∧ (ofCodes (li o)).all isD = true ∧ pv (ofCodes (li o)) = nv (l.drop k))
    (fun x => ∃ o : List Nat, x = li o ∧ o.length = l.length ∧ (ofCodes (li o)).all isD = true ∧ pv (ofCodes (li o)) = nv l) l.length ⟨[], rfl, by simp, rfl, by simp [li, ofCodes, pv, nv]⟩ ?_ ?_
  · rintro k s ⟨o, rfl, hok, hall, hv⟩
    dsimp only
    cases k with
    | zero =>
      right
      rw [if_neg (by simp)]
      exact ⟨_, rfl, o, rfl, by omega, hall, hv⟩
    | succ k =>
      left
      have hg : l[k]? = some l[k] := List.getElem?_eq_getElem (by omega)
      revert hg
      generalize l[k] = d
      intro hg
      have hd := hl d (List.mem_of_getElem? hg)
      have hw2 : wrap .u8 (wrap .i64 (48 + (d : Int))) = ((48 + d : Nat) : Int) := by
        rw [show (48 : Int) + (d : Int) = ((48 + d : Nat) : Int) by omega, w64n (by omega), wu8n (by omega)]
      have ha : app 1 (li o) ([((48 + d : Nat) : Int)] : List Int) = some (li (o ++ [48 + d])) := app_li (m := [48 + d]) (by simp; omega) (by simp; omega)
      refine ⟨_, k, ?_, by omega, o ++ [48 + d], rfl, by simp; omega, ?_, ?_⟩
      · rw [show ((k + 1 : Nat) : Int) - 1 = (k : Int) by omega, if_pos (by simp), bnd_eq (get_li hg), hw2, bnd_eq ha, show wrap .i64 ((k : Int) - 1) = (k : Int) - 1 from w64 (by omega) (by omega)]
      · rw [ofCodes_li, List.all_append, hall, ofCodes_li1]; simp [cd_isD hd]
      · rw [ofCodes_li, ofCodes_li1, pv_snoc, hv, cd_nat hd, nv_drop hg]; omega
  · rintro x ⟨o, rfl, hol, hall, hv⟩
    rw [li_len]
    by_cases h0 : o.length = 0
    · rw [if_pos (by simpa using h0)]
      have : l = [] := List.length_eq_zero_iff.1 (by omega)
      subst this
      rw [nv, dec_small (by omega)]
      rfl
    · rw [if_neg (by simpa using h0), bnd_eq (rTrim_ok _ hall (fun h => h0 (by rw [← ofCodes_len, h]; rfl))), hv]

theorem digit_ok (n i : Nat) (hn : (dec n).length < 1000000000) : ref01_digit (dec n) (i : Int) = some ((n / 10 ^ i % 10 : Nat) : Int) := by
  unfold ref01_digit
  by_cases h : i < (dec n).length
  · have hg := dec_get i n h
    have hd : n / 10 ^ i % 10 < 10 := by omega
    generalize n / 10 ^ i % 10 = d at *
    have e : wrap .i64 ((wrap .i64 (((dec n).length : Int) - 1)) - (i : Int)) = (((dec n).length - 1 - i : Nat) : Int) := by
      rw [show wrap .i64 (((dec n).length : Int) - 1) = ((dec n).length : Int) - 1 from w64 (by omega) (by omega), show wrap .i64 (((dec n).length : Int) - 1 - (i : Int)) = ((dec n).length : Int) - 1 - (i : Int) from w64 (by omega) (by omega)]
      omega
    rw [if_neg (by simp; omega), e, bnd_eq (get_str hg), show Int.ofNat (cd d).toNat = ((48 + d : Nat) : Int) from by rw [cd_nat hd]; rfl,
      show ((48 + d : Nat) : Int) - 48 = (d : Int) by omega, wu8n (by omega), w64n (by omega)]
  · have h1 := dec_lt n
    have h2 : 10 ^ (dec n).length ≤ 10 ^ i := Nat.pow_le_pow_right (by omega) (by omega)
    rw [if_pos (by simp; omega), Nat.div_eq_of_lt (by omega)]
    rfl

theorem rCmp_ok (m n : Nat) : ref01_Cmp (dec m) (dec n) = some (cmpI m n) := by
  unfold ref01_Cmp
  have len_lt : ∀ a b : Nat, (dec a).length < (dec b).length → a < b := fun a b h => by
    have h1 := dec_lt a
    have h0 := dec_pos a
    have hb : b ≠ 0 := fun hb => by
      rw [hb, dec_small (show 0 < 10 by omega), List.length_singleton] at h
      omega
    have h2 := dec_ge hb
    have h3 : 10 ^ (dec a).length ≤ 10 ^ ((dec b).length - 1) := Nat.pow_le_pow_right (by omega) (by omega)
    omega
  by_cases hl : (dec m).length = (dec n).length
  · rw [if_neg (by simp [hl])]
    by_cases he : m = n
    · subst he
      rw [if_pos (by simp)]
      simp [cmpI]
    · have hne : dec m ≠ dec n := fun h => he (dec_inj h)
      rw [if_neg (by simpa using hne), bytesLess_pv _ _ hl (dec_all m) (dec_all n), pv_dec, pv_dec]
      unfold cmpI
      by_cases hlt : m < n
      · rw [if_pos (by simpa using hlt), if_pos hlt]
      · rw [if_neg (by simpa using hlt), if_neg hlt, if_neg he]
  · rw [if_pos (by simp; omega)]
    unfold cmpI
    by_cases h2 : (dec m).length < (dec n).length
    · have := len_lt m n h2
      rw [if_pos (by simp; omega), if_pos this]
    · have := len_lt n m (by omega)
      rw [if_neg (by simp; omega), if_neg (by omega), if_neg (by omega)]

theorem mod_ten (n i : Nat) : n % 10 ^ (i + 1) = n % 10 ^ i + 10 ^ i * (n / 10 ^ i % 10) := by
  rw [Nat.pow_succ, Nat.mod_mul]

theorem rSub_ok (a b : Nat) (hab : b ≤ a) (ha : (dec a).length < 1000000000) : ref01_Sub (dec a) (dec b) = some (dec (a - b)) := by
  unfold ref01_Sub
  have hb : (dec b).length < 1000000000 := by
    have h1 := dec_len_le (n := b) (j := (dec a).length) (by have := dec_lt a; omega) (dec_pos a)
    omega
  refine bnd_iter (fun k s => ∃ (bw i : Nat) (l : List Nat), s = ((bw : Int), (i : Int), li l) ∧ i + k = (dec a).length ∧ l.length = i ∧ bw ≤ 1 ∧ (∀ x ∈ l, x < 10) ∧ nv l + b % 10 ^ i = a % 10 ^ i + 10 ^ i * bw)
    (fun x => ∃ l : List Nat, x = li l ∧ l.length = (dec a).length ∧ (∀ x ∈ l, x < 10) ∧ nv l = a - b) (dec a).length ⟨0, 0, [], rfl, by omega, rfl, by omega, by simp, by simp [nv, Nat.mod_one]⟩ ?_ ?_
  · rintro k s ⟨bw, i, l, rfl, hik, hli, hbw, hdig, hv⟩
    dsimp only
    by_cases hi : i < (dec a).length
    · left
      have g1 := digit_ok a i ha
      have g2 := digit_ok b i hb
      have m1 := mod_ten a i
      have m2 := mod_ten b i
      have hx : a / 10 ^ i % 10 < 10 := by omega
      have hy : b / 10 ^ i % 10 < 10 := by omega
      generalize a / 10 ^ i % 10 = x at *
      generalize b / 10 ^ i % 10 = y at *
      have hP := Nat.pow_succ 10 i
      have e : wrap .i64 ((wrap .i64 ((x : Int) - (y : Int))) - (bw : Int)) = (x : Int) - y - bw := by
        rw [show wrap .i64 ((x : Int) - (y : Int)) = (x : Int) - y from w64 (by omega) (by omega), show wrap .i64 ((x : Int) - (y : Int) - (bw : Int)) = (x : Int) - y - bw from w64 (by omega) (by omega)]
      rw [if_pos (by simp; omega), bnd_eq g1, bnd_eq g2, lt_s, e]
      obtain ⟨bw', d, hd, hbw', hpair, heq⟩ : ∃ bw' d : Nat, d < 10 ∧ bw' ≤ 1 ∧ (if (decide ((x : Int) - y - bw < 0)) = true then ((1 : Int), wrap .i64 ((x : Int) - y - bw + 10)) else (0, (x : Int) - y - bw)) = ((bw' : Int), (d : Int)) ∧ d + y + bw = x + 10 * bw' := by
        by_cases hlt : x < y + bw
        · refine ⟨1, x + 10 - y - bw, by omega, by omega, ?_, by omega⟩
          rw [if_pos (by simp; omega), show wrap .i64 ((x : Int) - y - bw + 10) = (x : Int) - y - bw + 10 from w64 (by omega) (by omega)]
          exact congrArg (Prod.mk (1 : Int)) (by omega)
        · refine ⟨0, x - y - bw, by omega, by omega, ?_, by omega⟩
          rw [if_neg (by simp; omega)]
          exact congrArg (Prod.mk (0 : Int)) (by omega)
      rw [hpair]
      have happ : app 8 (li l) ([(d : Int)] : List Int) = some (li (l ++ [d])) := app_li (m := [d]) (by simp; omega) (by simp; omega)
      rw [bnd_eq happ, inc64 (by omega)]
      refine ⟨_, k - 1, rfl, by omega, bw', i + 1, l ++ [d], rfl, by omega, by simp [hli], hbw', ?_, ?_⟩
      · intro z hz
        rcases List.mem_append.1 hz with hz | hz
        · exact hdig z hz
        · have : z = d := by simpa using hz
          omega
      · rw [nv_snoc, hli, m1, m2, hP]
        generalize 10 ^ i = P at *
        have h1 := congrArg (P * ·) heq
        simp only [Nat.mul_add] at h1
        rw [Nat.mul_assoc P 10 bw']
        omega
    · right
      have hie : i = (dec a).length := by omega
      rw [if_neg (by simp; omega)]
      refine ⟨_, rfl, l, rfl, by omega, hdig, ?_⟩
      have h1 := dec_lt a
      have h2 := nv_lt l hdig
      rw [hli] at h2
      rw [← hie] at h1
      rw [Nat.mod_eq_of_lt (by omega), Nat.mod_eq_of_lt h1] at hv
      generalize 10 ^ i = P at *
      have : bw = 0 ∨ bw = 1 := by omega
      rcases this with rfl | rfl <;> omega
  · rintro x ⟨l, rfl, hl, hdig, hv⟩
    rw [bnd_eq (written_ok l hdig (by omega)), hv]
end Go.Sh
