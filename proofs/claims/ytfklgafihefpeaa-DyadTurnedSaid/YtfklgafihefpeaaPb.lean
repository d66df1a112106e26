/- Plain words: sums, differences, products, quotients by a limb. -/
import Derived.Test.YtfklgafihefpeaaPa
set_option linter.unusedVariables false
set_option linter.unusedSimpArgs false
namespace Go.Sh
open Go.Ev Go.Nm

theorem Add32_ok (x y c : Nat) (hx : x < 4294967296) (hy : y < 4294967296) (hc : c < 4294967296) :
    bits_Add32 (x : Int) y c = some ((((x + y + c) % 4294967296 : Nat) : Int), (((x + y + c) / 4294967296 : Nat) : Int)) := by
  unfold bits_Add32
  have e1 : wrap .u64 ((wrap .u64 ((wrap .u64 (x : Int)) + (wrap .u64 (y : Int)))) + (wrap .u64 (c : Int))) = ((x + y + c : Nat) : Int) := by
    rw [wu64n (n := x) (by omega), wu64n (n := y) (by omega), wu64n (n := c) (by omega), ← Int.natCast_add, wu64n (n := x + y) (by omega), ← Int.natCast_add, wu64n (by omega)]
  rw [e1, shr32, w32m, w32n (by omega)]

theorem Add_ok (m n : Nat) (hm : lim m < 1000000000) (hn : lim n < 1000000000) : nat_Nat_Add (nt m) (nt n) = some (nt (m + n)) := by
  have main : ∀ p q : Nat, lim q ≤ lim p → lim p < 1000000000 → ∀ f : List Int × List Int → Option (List Int), (∀ x, f x = nat_Nat_Add x.1 x.2) → True := fun _ _ _ _ _ _ => trivial
  unfold nat_Nat_Add
  obtain ⟨p, q, hpq, hp, hsum, hpair⟩ : ∃ p q, lim q ≤ lim p ∧ lim p < 1000000000 ∧ p + q = m + n ∧ (if (decide (((nt m).length : Int) < ((nt n).length : Int))) = true then (nt n, nt m) else (nt m, nt n)) = (nt p, nt q) := by
    rw [nt_len, nt_len]
    by_cases h : lim m < lim n
    · exact ⟨n, m, by omega, hn, Nat.add_comm _ _, by rw [if_pos (by simp; omega)]⟩
    · exact ⟨m, n, by omega, hm, rfl, by rw [if_neg (by simp; omega)]⟩
  rw [hpair, lt_s]
  simp only [nt_len]
  have e0 : wrap .i64 ((lim p : Int) + 1) = ((lim p + 1 : Nat) : Int) := by
    rw [show (lim p : Int) + 1 = ((lim p + 1 : Nat) : Int) by omega]
    exact w64n (by omega)
  rw [e0, bnd_eq (mk_li (by omega) (by omega))]
  refine bnd_iter (fun k s => ∃ (i : Nat) (o : List Nat) (c : Nat), s = ((c : Int), (i : Int), li o) ∧ i + k = lim p ∧ o.length = lim p + 1 ∧ Lt o ∧ c ≤ 1 ∧ (∀ j, i ≤ j → j < lim p + 1 → o[j]? = some 0) ∧ val o + 4294967296 ^ i * c = val ((limbs p).take i) + val ((limbs q).take i))
    (fun x => ∃ (o : List Nat) (c : Nat), x = ((c : Int), li o) ∧ o.length = lim p + 1 ∧ Lt o ∧ c ≤ 1 ∧ o[lim p]? = some 0 ∧ val o + 4294967296 ^ lim p * c = p + q) (lim p) ⟨0, List.replicate (lim p + 1) 0, 0, rfl, by omega, by simp, Lt.rep _, by omega, by intro j _ hj; simp [hj], by simp [val_rep, val]⟩ ?_ ?_
  · rintro k s ⟨i, o, c, rfl, hik, hol, hlt, hc, hz, hv⟩
    by_cases hi : i < lim p
    · left
      have hx : (limbs p)[i]? = some (limbs p)[i] := List.getElem?_eq_getElem hi
      revert hx
      generalize (limbs p)[i] = x
      intro hx
      have hxl := (limbs_lt p).get hx
      obtain ⟨y, hy⟩ : ∃ y, y = ((limbs q)[i]?).getD 0 := ⟨_, rfl⟩
      have hyl : y < 4294967296 := by
        rw [hy]
        cases h : (limbs q)[i]? with
        | none => simp
        | some z => exact (limbs_lt q).get h
      have hg : Ev.get (nt p) (i : Int) = some (x : Int) := get_li hx
      have hother : (if (decide ((i : Int) < (lim q : Int))) = true then bnd (Ev.get (nt q) (i : Int)) fun v4 => some v4 else some 0) = some (y : Int) := by
        by_cases hiq : i < lim q
        · have hy2 : (limbs q)[i]? = some y := by
            rw [hy, List.getElem?_eq_getElem (show i < (limbs q).length from hiq)]
            rfl
          rw [if_pos (by simp; omega), bnd_eq (show Ev.get (nt q) (i : Int) = some (y : Int) from get_li hy2)]
        · have : y = 0 := by
            rw [hy, List.getElem?_eq_none (show (limbs q).length ≤ i from Nat.le_of_not_lt hiq)]
            rfl
          rw [if_neg (by simp; omega), this]
          rfl
      have hadd := Add32_ok x y c hxl hyl (by omega)
      have hput : put (li o) (i : Int) (((x + y + c) % 4294967296 : Nat) : Int) = some (li (o.set i ((x + y + c) % 4294967296))) := put_li (by omega)
      refine ⟨_, k - 1, ?_, by omega, i + 1, o.set i ((x + y + c) % 4294967296), (x + y + c) / 4294967296, rfl, by omega, by simpa using hol, hlt.set (by omega), by omega, ?_, ?_⟩
      · dsimp only
        rw [if_pos (by simp; omega), bnd_eq hother, bnd_eq hg, bnd_eq hadd, bnd_eq hput]
        rw [show wrap .i64 ((i : Int) + 1) = ((i + 1 : Nat) : Int) from by rw [show (i : Int) + 1 = ((i + 1 : Nat) : Int) by omega]; exact w64n (by omega)]
      · intro j h1 h2
        rw [List.getElem?_set_ne (by omega)]
        exact hz j (by omega) h2
      · have h1 := val_set (hz i (Nat.le_refl _) (by omega)) ((x + y + c) % 4294967296)
        have h2 := digit (4294967296 ^ i) (x + y + c)
        rw [val_take_succ, val_take_succ, hx, ← hy, Nat.pow_succ]
        simp only [Option.getD_some, Nat.mul_zero, Nat.add_zero] at h1 ⊢
        rw [Nat.mul_add, Nat.mul_add] at h2
        omega
    · right
      have hip : i = lim p := by omega
      subst hip
      refine ⟨_, by dsimp only; rw [if_neg (by simp)], o, c, rfl, hol, hlt, hc, hz _ (Nat.le_refl _) (by omega), ?_⟩
      rw [hv, take_limbs (Nat.le_refl _), take_limbs hpq]
  · rintro x ⟨o, c, rfl, hol, hlt, hc, hz, hv⟩
    dsimp only
    have hput : put (li o) (lim p : Int) (c : Int) = some (li (o.set (lim p) c)) := put_li (by omega)
    have h1 := val_set hz c
    rw [bnd_eq hput, bnd_eq (trim_ok _ (hlt.set (by omega)) (by simp; omega)), ← hsum]
    congr 2
    omega

theorem cmpI_neg {m n : Nat} : cmpI m n < 0 ↔ m < n := by
  unfold cmpI
  split
  · simp; assumption
  · split <;> simp <;> omega

theorem bv32 (a : Nat) (ha : a < 4294967296) : (BitVec.ofInt IntKind.u32.bits (a : Int)).toNat = a := by
  rw [BitVec.toNat_ofInt]
  simp only [IntKind.bits]
  omega
theorem lt32 {a : Nat} (h : a < 2 ^ 32) : a < 4294967296 := h
theorem and32 (a b : Nat) (ha : a < 4294967296) (hb : b < 4294967296) : band .u32 (a : Int) b = ((a &&& b : Nat) : Int) := by
  show IntKind.wrap .u32 _ = _
  rw [BitVec.toNat_and, bv32 a ha, bv32 b hb]
  have := lt32 (Nat.and_lt_two_pow (n := 32) a hb)
  exact w32 (by omega) (by omega)
theorem or32 (a b : Nat) (ha : a < 4294967296) (hb : b < 4294967296) : bor .u32 (a : Int) b = ((a ||| b : Nat) : Int) := by
  show IntKind.wrap .u32 _ = _
  rw [BitVec.toNat_or, bv32 a ha, bv32 b hb]
  have := lt32 (Nat.or_lt_two_pow (n := 32) ha hb)
  exact w32 (by omega) (by omega)
theorem xor32 (a b : Nat) (ha : a < 4294967296) (hb : b < 4294967296) : bxor .u32 (a : Int) b = ((a ^^^ b : Nat) : Int) := by
  show IntKind.wrap .u32 _ = _
  rw [BitVec.toNat_xor, bv32 a ha, bv32 b hb]
  have := lt32 (Nat.xor_lt_two_pow (n := 32) ha hb)
  exact w32 (by omega) (by omega)
theorem not32 (a : Nat) (ha : a < 4294967296) : bnot .u32 (a : Int) = ((4294967295 ^^^ a : Nat) : Int) := by
  have e : (if IntKind.u32.signed then (-1 : Int) else IntKind.u32.max) = ((4294967295 : Nat) : Int) := by decide
  unfold bnot
  rw [e]
  exact xor32 _ _ (by omega) ha

theorem Sub32_ok (x y b : Nat) (hx : x < 4294967296) (hy : y < 4294967296) (hb : b ≤ 1) :
    bits_Sub32 (x : Int) y b = some (((x : Int) - y - b) % 4294967296, ((if x < y + b then 1 else 0 : Nat) : Int)) := by
  unfold bits_Sub32
  obtain ⟨d, hd⟩ : ∃ d : Nat, (d : Int) = ((x : Int) - y - b) % 4294967296 := ⟨(((x : Int) - y - b) % 4294967296).toNat, by omega⟩
  have hdl : d < 4294967296 := by omega
  have hbb := borrow_bits x y b d hx hy hb hd
  have l1 : 4294967295 ^^^ x < 4294967296 := lt32 (Nat.xor_lt_two_pow (n := 32) (by omega) hx)
  have l2 : x ^^^ y < 4294967296 := lt32 (Nat.xor_lt_two_pow (n := 32) hx hy)
  have l3 : 4294967295 ^^^ (x ^^^ y) < 4294967296 := lt32 (Nat.xor_lt_two_pow (n := 32) (by omega) l2)
  have l4 : (4294967295 ^^^ x) &&& y < 4294967296 := lt32 (Nat.and_lt_two_pow (n := 32) _ hy)
  have l5 : (4294967295 ^^^ (x ^^^ y)) &&& d < 4294967296 := lt32 (Nat.and_lt_two_pow (n := 32) _ hdl)
  have e1 : wrap .u32 (wrap .u32 ((x : Int) - y) - b) = (d : Int) := by
    show IntKind.wrap .u32 (IntKind.wrap .u32 _ - _) = _
    rw [wrap32, wrap32]; omega
  have e2 : shr .u32 (((((4294967295 ^^^ x) &&& y) ||| ((4294967295 ^^^ (x ^^^ y)) &&& d) : Nat) : Int)) 31 = ((if x < y + b then 1 else 0 : Nat) : Int) := by
    rw [← hbb]
    unfold shr
    have : (2 : Int) ^ Nat.min (31 : Int).toNat IntKind.u32.bits = ((2147483648 : Nat) : Int) := by decide
    rw [this]
    exact (Int.natCast_ediv _ _).symm
  rw [e1, not32 _ hx, xor32 _ _ hx hy, not32 _ l2, and32 _ _ l1 hy, and32 _ _ l3 hdl, or32 _ _ l4 l5, e2, hd]

theorem Sub_ok (m n : Nat) (hm : lim m < 1000000000) (hn : lim n < 1000000000) : nat_Nat_Sub (nt m) (nt n) = some (if n ≤ m then (nt (m - n), true) else ([], false)) := by
  unfold nat_Nat_Sub
  rw [bnd_eq (Cmp_ok m n (by omega) (by omega))]
  by_cases hnm : n ≤ m
  · rw [if_neg (by simp [cmpI_neg]; omega), if_pos hnm]
    simp only [nt_len]
    rw [bnd_eq (mk_li (by omega) (by omega))]
    refine bnd_iter (fun k s => ∃ (i : Nat) (o : List Nat) (c : Nat), s = ((c : Int), (i : Int), li o) ∧ i + k = lim m ∧ o.length = lim m ∧ Lt o ∧ c ≤ 1 ∧ (∀ j, i ≤ j → j < lim m → o[j]? = some 0) ∧ val ((limbs m).take i) + 4294967296 ^ i * c = val o + val ((limbs n).take i))
      (fun x => x = li (limbs (m - n)) ∨ ∃ o, x = li o ∧ o.length = lim m ∧ Lt o ∧ val o = m - n) (lim m) ⟨0, List.replicate (lim m) 0, 0, rfl, by omega, by simp, Lt.rep _, by omega, by intro j _ hj; simp [hj], by simp [val_rep, val]⟩ ?_ ?_
    · rintro k s ⟨i, o, c, rfl, hik, hol, hlt, hc1, hz, hv⟩
      by_cases hi : i < lim m
      · left
        have hx : (limbs m)[i]? = some (limbs m)[i] := List.getElem?_eq_getElem hi
        revert hx
        generalize (limbs m)[i] = x
        intro hx
        have hxl := (limbs_lt m).get hx
        have hw := hz i (Nat.le_refl _) hi
        obtain ⟨y, hy⟩ : ∃ y, y = ((limbs n)[i]?).getD 0 := ⟨_, rfl⟩
        have hyl : y < 4294967296 := by
          rw [hy]
          cases h : (limbs n)[i]? with
          | none => simp
          | some z => exact (limbs_lt n).get h
        obtain ⟨d, hd⟩ : ∃ d : Nat, (d : Int) = ((x : Int) - y - c) % 4294967296 := ⟨(((x : Int) - y - c) % 4294967296).toNat, by omega⟩
        have hcall := Sub32_ok x y c hxl hyl hc1
        rw [← hd] at hcall
        obtain ⟨c', hc'⟩ : ∃ c', c' = if x < y + c then 1 else 0 := ⟨_, rfl⟩
        have hdc : x + 4294967296 * c' = y + c + d := by
          rw [hc']
          split <;> omega
        have hc2 : c' ≤ 1 := by rw [hc']; split <;> omega
        rw [← hc'] at hcall
        have hg : Ev.get (nt m) (i : Int) = some (x : Int) := get_li hx
        have hother : (if (decide ((i : Int) < (lim n : Int))) = true then bnd (Ev.get (nt n) (i : Int)) fun v4 => some v4 else some 0) = some (y : Int) := by
          by_cases hiq : i < lim n
          · have hy2 : (limbs n)[i]? = some y := by
              rw [hy, List.getElem?_eq_getElem (show i < (limbs n).length from hiq)]
              rfl
            rw [if_pos (by simp; omega), bnd_eq (show Ev.get (nt n) (i : Int) = some (y : Int) from get_li hy2)]
          · have : y = 0 := by
              rw [hy, List.getElem?_eq_none (show (limbs n).length ≤ i from Nat.le_of_not_lt hiq)]
              rfl
            rw [if_neg (by simp; omega), this]
            rfl
        have hput : put (li o) (i : Int) (d : Int) = some (li (o.set i d)) := put_li (by omega)
        refine ⟨_, k - 1, ?_, by omega, i + 1, o.set i d, c', rfl, by omega, by simpa using hol, hlt.set (by omega), hc2, ?_, ?_⟩
        · dsimp only
          rw [if_pos (by simp; omega), bnd_eq hother, bnd_eq hg, bnd_eq hcall, bnd_eq hput]
          rw [show wrap .i64 ((i : Int) + 1) = ((i + 1 : Nat) : Int) from by rw [show (i : Int) + 1 = ((i + 1 : Nat) : Int) by omega]; exact w64n (by omega)]
        · intro j h1 h2
          rw [List.getElem?_set_ne (by omega)]
          exact hz j (by omega) h2
        · have h1 := val_set hw d
          rw [val_take_succ, val_take_succ, hx, ← hy, Nat.pow_succ]
          simp only [Option.getD_some, Nat.mul_zero, Nat.add_zero] at h1 ⊢
          have h2 := congrArg (4294967296 ^ i * ·) hdc
          simp only [Nat.mul_add] at h2
          rw [Nat.mul_assoc]
          omega
      · right
        have hip : i = lim m := by omega
        refine ⟨_, by dsimp only; rw [if_neg (by simp; omega)], .inr ⟨o, rfl, hol, hlt, ?_⟩⟩
        rw [hip, take_limbs (Nat.le_refl _), take_limbs (lim_mono hnm)] at hv
        have h1 := val_lt hlt
        rw [hol] at h1
        rcases Nat.le_one_iff_eq_zero_or_eq_one.1 hc1 with h2 | h2
        · rw [h2] at hv
          omega
        · rw [h2] at hv
          omega
    · rintro x (rfl | ⟨o, rfl, hol, hlt, hv⟩)
      · rw [bnd_eq (trim_ok _ (limbs_lt _) (by have := lim_mono (Nat.sub_le m n); simp only [lim] at *; omega)), val_limbs]
      · rw [bnd_eq (trim_ok _ hlt (by omega)), hv]
  · rw [if_pos (by simp [cmpI_neg]; omega), if_neg hnm]

theorem Mul_ok (m n : Nat) (hm : lim m < 1000000000) (hn : lim n < 1000000000) : nat_Nat_Mul (nt m) (nt n) = some (nt (m * n)) := by
  unfold nat_Nat_Mul
  simp only [nt_len]
  have e0 : wrap .i64 ((lim m : Int) + (lim n : Int)) = ((lim m + lim n : Nat) : Int) := by
    rw [← Int.natCast_add]
    exact w64n (by omega)
  rw [e0, bnd_eq (mk_li (by omega) (by omega))]
  refine bnd_iter (fun k s => ∃ (i : Nat) (o : List Nat), s = ((i : Int), li o) ∧ i + k = lim m ∧ o.length = lim m + lim n ∧ Lt o ∧ (∀ j, i + lim n ≤ j → j < lim m + lim n → o[j]? = some 0) ∧ val o = val ((limbs m).take i) * n)
    (fun x => ∃ o, x = li o ∧ o.length = lim m + lim n ∧ Lt o ∧ val o = m * n) (lim m) ⟨0, List.replicate (lim m + lim n) 0, rfl, by omega, by simp, Lt.rep _, by intro j _ hj; simp [hj], by simp [val_rep, val]⟩ ?_ ?_
  · rintro k s ⟨i, o, rfl, hik, hol, hlt, hz, hv⟩
    by_cases hi : i < lim m
    · left
      have hx : (limbs m)[i]? = some (limbs m)[i] := List.getElem?_eq_getElem hi
      revert hx
      generalize (limbs m)[i] = x
      intro hx
      have hxl := (limbs_lt m).get hx
      have hg : Ev.get (nt m) (i : Int) = some (x : Int) := get_li hx
      dsimp only
      rw [if_pos (by simp; omega), bnd_eq hg]
      obtain ⟨y, h1, o2, c2, rfl, h3, h4, h5, h6, h7⟩ := iter_inv (b := fun s4 : Int × Int × List Int =>
          if (decide (s4.2.1 < (lim n : Int))) = true then
            bnd (Ev.get (nt n) s4.2.1) fun v5 =>
            bnd (Ev.get s4.2.2 (wrap .i64 ((i : Int) + s4.2.1))) fun v6 =>
            bnd (put s4.2.2 (wrap .i64 ((i : Int) + s4.2.1)) (wrap .u32 (wrap .u64 ((wrap .u64 ((wrap .u64 ((wrap .u64 (x : Int)) * (wrap .u64 v5))) + (wrap .u64 v6))) + s4.1)))) fun v7 =>
            some (.inl ((shr .u64 (wrap .u64 ((wrap .u64 ((wrap .u64 ((wrap .u64 (x : Int)) * (wrap .u64 v5))) + (wrap .u64 v6))) + s4.1)) 32), (wrap .i64 (s4.2.1 + 1)), v7))
          else
            some (.inr (s4.1, s4.2.2)))
        (fun k' s => ∃ (j : Nat) (o : List Nat) (c : Nat), s = ((c : Int), (j : Int), li o) ∧ j + k' = lim n ∧ o.length = lim m + lim n ∧ Lt o ∧ c < 4294967296 ∧ (∀ j, i + lim n ≤ j → j < lim m + lim n → o[j]? = some 0) ∧
          val o + 4294967296 ^ (i + j) * c = val ((limbs m).take i) * n + 4294967296 ^ i * x * val ((limbs n).take j))
        (fun y => ∃ (o : List Nat) (c : Nat), y = ((c : Int), li o) ∧ o.length = lim m + lim n ∧ Lt o ∧ c < 4294967296 ∧ (∀ j, i + lim n ≤ j → j < lim m + lim n → o[j]? = some 0) ∧
          val o + 4294967296 ^ (i + lim n) * c = val ((limbs m).take i) * n + 4294967296 ^ i * x * n)
        (by
          clear hz hv hlt hol o
          rintro k' s ⟨j, o, c, rfl, hjk, hol, hlt, hc, hz, hv⟩
          by_cases hj : j < lim n
          · left
            have hy : (limbs n)[j]? = some (limbs n)[j] := List.getElem?_eq_getElem hj
            revert hy
            generalize (limbs n)[j] = y
            intro hy
            have hyl := (limbs_lt n).get hy
            have hw : o[i + j]? = some o[i + j] := List.getElem?_eq_getElem (by omega)
            revert hw
            generalize o[i + j] = w
            intro hw
            have hwl := hlt.get hw
            have hxy : x * y ≤ 4294967295 * 4294967295 := Nat.mul_le_mul (by omega) (by omega)
            have eij : wrap .i64 ((i : Int) + (j : Int)) = ((i + j : Nat) : Int) := by
              rw [← Int.natCast_add]
              exact w64n (by omega)
            have e1 : wrap .u64 ((wrap .u64 ((wrap .u64 ((wrap .u64 (x : Int)) * (wrap .u64 (y : Int)))) + (wrap .u64 (w : Int)))) + (c : Int)) = ((x * y + w + c : Nat) : Int) := by
              rw [wu64n (n := x) (by omega), wu64n (n := y) (by omega), wu64n (n := w) (by omega), ← Int.natCast_mul, wu64n (n := x * y) (by omega), ← Int.natCast_add, wu64n (n := x * y + w) (by omega), ← Int.natCast_add, wu64n (by omega)]
            have gy : Ev.get (nt n) (j : Int) = some (y : Int) := get_li hy
            have gw : Ev.get (li o) ((i + j : Nat) : Int) = some (w : Int) := get_li hw
            have hput : put (li o) ((i + j : Nat) : Int) (((x * y + w + c) % 4294967296 : Nat) : Int) = some (li (o.set (i + j) ((x * y + w + c) % 4294967296))) := put_li (by omega)
            refine ⟨_, k' - 1, ?_, by omega, j + 1, o.set (i + j) ((x * y + w + c) % 4294967296), (x * y + w + c) / 4294967296, rfl, by omega, by simpa using hol, hlt.set (by omega), ?_, ?_, ?_⟩
            · dsimp only
              rw [if_pos (by simp; omega), bnd_eq gy, eij, bnd_eq gw, e1, w32m, bnd_eq hput, shr32]
              rw [show wrap .i64 ((j : Int) + 1) = ((j + 1 : Nat) : Int) from by rw [show (j : Int) + 1 = ((j + 1 : Nat) : Int) by omega]; exact w64n (by omega)]
            · omega
            · intro l h1 h2
              rw [List.getElem?_set_ne (by omega)]
              exact hz l h1 h2
            · have h1 := val_set hw ((x * y + w + c) % 4294967296)
              have h2 := digit (4294967296 ^ (i + j)) (x * y + w + c)
              rw [val_take_succ, hy, ← Nat.add_assoc, Nat.pow_succ]
              simp only [Option.getD_some]
              rw [Nat.mul_add, Nat.mul_add] at h2
              have h3 : 4294967296 ^ i * x * (4294967296 ^ j * y) = 4294967296 ^ (i + j) * (x * y) := by
                rw [Nat.pow_add]
                grind
              rw [Nat.mul_add, h3]
              omega
          · right
            have hjn : j = lim n := by omega
            refine ⟨_, by dsimp only; rw [if_neg (by simp; omega)], o, c, rfl, hol, hlt, hc, hz, ?_⟩
            rw [hjn, take_limbs (Nat.le_refl _)] at hv
            exact hv) (lim n) (0, 0, li o) ⟨0, o, 0, rfl, by omega, hol, hlt, by omega, hz, by simp [val, hv]⟩
      rw [bnd_eq h1]
      dsimp only
      have ein : wrap .i64 ((i : Int) + (lim n : Int)) = ((i + lim n : Nat) : Int) := by
        rw [← Int.natCast_add]
        exact w64n (by omega)
      have hw : o2[i + lim n]? = some 0 := h6 _ (Nat.le_refl _) (by omega)
      have hput : put (li o2) ((i + lim n : Nat) : Int) (c2 : Int) = some (li (o2.set (i + lim n) c2)) := put_li (by omega)
      refine ⟨_, k - 1, by rw [ein, w32n (by omega), bnd_eq hput], by omega, i + 1, o2.set (i + lim n) c2, ?_, by omega, by simpa using h3, h4.set h5, ?_, ?_⟩
      · rw [show wrap .i64 ((i : Int) + 1) = ((i + 1 : Nat) : Int) from by rw [show (i : Int) + 1 = ((i + 1 : Nat) : Int) by omega]; exact w64n (by omega)]
      · intro l h8 h9
        rw [List.getElem?_set_ne (by omega)]
        exact h6 l (by omega) h9
      · have h8 := val_set hw c2
        rw [val_take_succ, hx]
        simp only [Option.getD_some]
        rw [Nat.add_mul]
        omega
    · right
      have hip : i = lim m := by omega
      refine ⟨_, by dsimp only; rw [if_neg (by simp; omega)], o, rfl, hol, hlt, ?_⟩
      rw [hv, hip, take_limbs (Nat.le_refl _)]
  · rintro x ⟨o, rfl, hol, hlt, hv⟩
    rw [bnd_eq (trim_ok _ hlt (by omega)), hv]
end Go.Sh
