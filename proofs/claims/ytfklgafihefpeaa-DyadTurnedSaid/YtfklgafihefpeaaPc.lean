/- Plain words: quotients by a limb, bits, shifts. -/
import Derived.Test.YtfklgafihefpeaaPb
set_option linter.unusedVariables false
set_option linter.unusedSimpArgs false
namespace Go.Sh
open Go.Ev Go.Nm

theorem inc64 {i : Nat} (h : i < 9223372036854775807) : wrap .i64 ((i : Int) + 1) = ((i + 1 : Nat) : Int) := by
  rw [show (i : Int) + 1 = ((i + 1 : Nat) : Int) by omega]
  exact w64n (by omega)
theorem dec64 {k : Nat} (h : k < 4611686018427387904) : wrap .i64 ((((k + 1 : Nat) : Int) - 1) - 1) = (k : Int) - 1 := by
  rw [show ((((k + 1 : Nat) : Int) - 1) - 1) = (k : Int) - 1 by omega]
  exact w64 (by omega) (by omega)
theorem bv64 (a : Nat) (ha : a < 18446744073709551616) : (BitVec.ofInt IntKind.u64.bits (a : Int)).toNat = a := by
  rw [BitVec.toNat_ofInt]
  simp only [IntKind.bits]
  omega
theorem or64 (r x : Nat) (hr : r < 4294967296) (hx : x < 4294967296) : bor .u64 ((r * 4294967296 : Nat) : Int) (x : Int) = ((r * 4294967296 + x : Nat) : Int) := by
  show IntKind.wrap .u64 _ = _
  rw [BitVec.toNat_or, bv64 _ (by omega), bv64 _ (by omega)]
  have : r * 4294967296 ||| x = r * 4294967296 + x := by
    rw [show r * 4294967296 = 2 ^ 32 * r by omega, ← Nat.two_pow_add_eq_or_of_lt (by omega)]
  rw [this]
  exact wu64n (by omega)
theorem or64r (r x : Nat) (hr : r < 4294967296) (hx : x < 4294967296) : bor .u64 (x : Int) ((r * 4294967296 : Nat) : Int) = ((r * 4294967296 + x : Nat) : Int) := by
  unfold bor
  rw [BitVec.or_comm]
  exact or64 r x hr hx
theorem shl32 (r : Nat) (hr : r < 4294967296) : shl .u64 (r : Int) 32 = ((r * 4294967296 : Nat) : Int) := by
  show IntKind.wrap .u64 ((r : Int) * 2 ^ Nat.min (32 : Int).toNat IntKind.u64.bits) = _
  have : (2 : Int) ^ Nat.min (32 : Int).toNat IntKind.u64.bits = 4294967296 := by decide
  rw [this, show (r : Int) * 4294967296 = ((r * 4294967296 : Nat) : Int) by omega]
  exact wu64n (by omega)
theorem tdivn (a b : Nat) : Int.tdiv (a : Int) (b : Int) = ((a / b : Nat) : Int) := (Int.ofNat_tdiv _ _).symm
theorem tmodn (a b : Nat) : Int.tmod (a : Int) (b : Int) = ((a % b : Nat) : Int) := (Int.ofNat_tmod _ _).symm

theorem val_drop {l : List Nat} {i x : Nat} (h : l[i]? = some x) : val (l.drop i) = x + 4294967296 * val (l.drop (i + 1)) := by
  obtain ⟨h1, rfl⟩ := List.getElem?_eq_some_iff.1 h
  rw [List.drop_eq_getElem_cons h1, val]

theorem small_ok (n d : Nat) (hn1 : lim n < 1000000000) (hd0 : 0 < d) (hd : d < 4294967296) : nat_Nat_small (nt n) (d : Int) = some (nt (n / d), ((n % d : Nat) : Int)) := by
  unfold nat_Nat_small
  simp only [nt_len]
  rw [bnd_eq (mk_li (by omega) (by omega)), show wrap .i64 ((lim n : Int) - 1) = (lim n : Int) - 1 from w64 (by omega) (by omega), wu64n (n := d) (by omega)]
  refine bnd_iter (fun k s => ∃ (o : List Nat) (r : Nat), s = ((r : Int), (k : Int) - 1, li o) ∧ k ≤ lim n ∧ o.length = lim n ∧ Lt o ∧ r < d ∧ val ((limbs n).drop k) = d * val (o.drop k) + r)
    (fun x => ∃ (o : List Nat) (r : Nat), x = ((r : Int), li o) ∧ o.length = lim n ∧ Lt o ∧ val o = n / d ∧ r = n % d) (lim n) ⟨List.replicate (lim n) 0, 0, rfl, Nat.le_refl _, by simp, Lt.rep _, hd0, by
      rw [List.drop_of_length_le (by simp [lim]), List.drop_of_length_le (by simp)]
      simp [val]⟩ ?_ ?_
  · rintro k s ⟨o, r, rfl, hk, hol, hlt, hr, hv⟩
    cases k with
    | zero =>
      right
      simp only [List.drop_zero, val_limbs] at hv
      refine ⟨_, by dsimp only; rw [if_neg (by simp)], o, r, rfl, hol, hlt, ?_, ?_⟩
      · rw [hv, Nat.mul_add_div hd0, Nat.div_eq_of_lt hr, Nat.add_zero]
      · rw [hv, Nat.mul_add_mod, Nat.mod_eq_of_lt hr]
    | succ k =>
      left
      have hx : (limbs n)[k]? = some (limbs n)[k] := List.getElem?_eq_getElem hk
      revert hx
      generalize (limbs n)[k] = x
      intro hx
      have hxl := (limbs_lt n).get hx
      have gx : Ev.get (nt n) (k : Int) = some (x : Int) := get_li hx
      have ek : (((k + 1 : Nat) : Int) - 1) = (k : Int) := by omega
      have hq : (r * 4294967296 + x) / d < 4294967296 := by
        rw [Nat.div_lt_iff_lt_mul hd0]
        have : (r + 1) * 4294967296 ≤ d * 4294967296 := Nat.mul_le_mul_right _ hr
        rw [Nat.mul_comm 4294967296 d]
        omega
      have h3 := Nat.div_add_mod (r * 4294967296 + x) d
      have hrm := Nat.mod_lt (r * 4294967296 + x) hd0
      have e4 : bor .u64 (shl .u64 (r : Int) 32) (wrap .u64 (x : Int)) = ((r * 4294967296 + x : Nat) : Int) := by
        rw [shl32 r (by omega), wu64n (n := x) (by omega), or64 r x (by omega) hxl]
      have hput : put (li o) (k : Int) (((r * 4294967296 + x) / d : Nat) : Int) = some (li (o.set k ((r * 4294967296 + x) / d))) := put_li (by omega)
      refine ⟨_, k, ?_, by omega, o.set k ((r * 4294967296 + x) / d), (r * 4294967296 + x) % d, rfl, by omega, by simpa using hol, hlt.set hq, hrm, ?_⟩
      · dsimp only
        rw [if_pos (by simp), dec64 (by omega)]
        rw [ek, bnd_eq gx, bnd_eq (chk_t (by omega)), bnd_eq (chk_t (by omega)), e4, tdivn, tmodn, wu64n (by omega), w32n hq, bnd_eq hput]
      · have h2 : (o.set k ((r * 4294967296 + x) / d))[k]? = some ((r * 4294967296 + x) / d) := by
          rw [List.getElem?_set_self (by omega)]
        rw [val_drop hx, val_drop h2, List.drop_set_of_lt (Nat.lt_add_one k), hv]
        rw [Nat.mul_add, Nat.mul_add, Nat.mul_left_comm]
        omega
  · rintro x ⟨o, r, rfl, hol, hlt, hq, hr⟩
    dsimp only
    have := Nat.mod_lt n hd0
    rw [bnd_eq (trim_ok _ hlt (by omega)), hq, hr, w32n (by omega)]

theorem Even_ok (n : Nat) : nat_Nat_Even (nt n) = some (decide (n % 2 = 0)) := by
  unfold nat_Nat_Even
  rw [nt_len]
  by_cases h0 : n = 0
  · subst h0
    have hl : lim 0 = 0 := lim_zero_iff.2 rfl
    rw [if_pos (by simp [hl])]
    rfl
  · have hl : lim n ≠ 0 := fun h => h0 (lim_zero_iff.1 h)
    have hg : Ev.get (nt n) 0 = some ((n % 4294967296 : Nat) : Int) := get_li (i := 0) (by rw [limbs_pos h0]; rfl)
    have e1 : band .u32 ((n % 4294967296 : Nat) : Int) 1 = ((n % 4294967296 % 2 : Nat) : Int) := by
      have := and32 (n % 4294967296) 1 (by omega) (by omega)
      rw [Nat.and_one_is_mod] at this
      exact this
    rw [if_neg (by simp; omega)]
    simp only [bnd_eq hg, bnd_s, e1]
    exact congrArg some (decide_eq_decide.2 (by omega))

theorem lim_two {n : Nat} (h : lim n = 2) : ∃ x y, limbs n = [x, y] ∧ x < 4294967296 ∧ y < 4294967296 ∧ n = x + 4294967296 * y := by
  have h1 : (limbs n).length = 2 := h
  match hl : limbs n, h1 with
  | [x, y], _ =>
    have h2 := limbs_lt n
    rw [hl] at h2
    have h3 := val_limbs n
    rw [hl] at h3
    refine ⟨x, y, rfl, h2 x (by simp), h2 y (by simp), ?_⟩
    simp only [val] at h3
    omega

theorem Uint_ok (n : Nat) : nat_Nat_Uint (nt n) = some (if n < 18446744073709551616 then ((n : Int), true) else (0, false)) := by
  unfold nat_Nat_Uint
  rw [nt_len]
  by_cases h0 : lim n = 0
  · have : n = 0 := lim_zero_iff.1 h0
    subst this
    rw [if_pos (by simp [h0])]
    rfl
  rw [if_neg (by simp; omega)]
  by_cases h1 : lim n = 1
  · have h2 := lim_one_iff.1 h1
    have hg : Ev.get (nt n) 0 = some (n : Int) := get_li (i := 0) (by rw [limbs_one h1]; rfl)
    rw [if_pos (by simp [h1]), bnd_eq hg, wu64n (by omega), if_pos (by omega)]
  rw [if_neg (by simp; omega)]
  by_cases h2 : lim n = 2
  · obtain ⟨x, y, hl, hx, hy, hn⟩ := lim_two h2
    have hg : Ev.get (nt n) 0 = some (x : Int) := get_li (i := 0) (by rw [hl]; rfl)
    have hg1 : Ev.get (nt n) 1 = some (y : Int) := get_li (i := 1) (by rw [hl]; rfl)
    rw [if_pos (by simp [h2]), bnd_eq hg, bnd_eq hg1, wu64n (n := x) (by omega), wu64n (n := y) (by omega), shl32 y hy, or64r y x hy hx, if_pos (by omega)]
    congr 3
    omega
  rw [if_neg (by simp; omega), if_neg]
  intro hlt
  have h3 := @lim_iff n 2
  have : lim n ≤ 2 := h3.2 (by simpa using hlt)
  omega

def tabL : List UInt8 := [0, 1, 2, 2, 3, 3, 3, 3, 4, 4, 4, 4, 4, 4, 4, 4, 5, 5, 5, 5, 5, 5, 5, 5, 5, 5, 5, 5, 5, 5, 5, 5, 6, 6, 6, 6, 6, 6, 6, 6, 6, 6, 6, 6, 6, 6, 6, 6, 6, 6, 6, 6, 6, 6, 6, 6, 6, 6, 6, 6, 6, 6, 6, 6, 7, 7, 7, 7, 7, 7, 7, 7, 7, 7, 7, 7, 7, 7, 7, 7, 7, 7, 7, 7, 7, 7, 7, 7, 7, 7, 7, 7, 7, 7, 7, 7, 7, 7, 7, 7, 7, 7, 7, 7, 7, 7, 7, 7, 7, 7, 7, 7, 7, 7, 7, 7, 7, 7, 7, 7, 7, 7, 7, 7, 7, 7, 7, 7, 8, 8, 8, 8, 8, 8, 8, 8, 8, 8, 8, 8, 8, 8, 8, 8, 8, 8, 8, 8, 8, 8, 8, 8, 8, 8, 8, 8, 8, 8, 8, 8, 8, 8, 8, 8, 8, 8, 8, 8, 8, 8, 8, 8, 8, 8, 8, 8, 8, 8, 8, 8, 8, 8, 8, 8, 8, 8, 8, 8, 8, 8, 8, 8, 8, 8, 8, 8, 8, 8, 8, 8, 8, 8, 8, 8, 8, 8, 8, 8, 8, 8, 8, 8, 8, 8, 8, 8, 8, 8, 8, 8, 8, 8, 8, 8, 8, 8, 8, 8, 8, 8, 8, 8, 8, 8, 8, 8, 8, 8, 8, 8, 8, 8, 8, 8, 8, 8, 8, 8, 8, 8, 8, 8, 8, 8, 8, 8]

set_option maxRecDepth 100000 in
theorem tabL_get : ∀ i < 256, tabL[i]? = some (UInt8.ofNat (blen i)) := by decide +kernel

theorem shrn {k : IntKind} (x m : Nat) (hm : m ≤ k.bits) : shr k (x : Int) (m : Int) = ((x / 2 ^ m : Nat) : Int) := by
  show (x : Int) / 2 ^ Nat.min (m : Int).toNat k.bits = _
  rw [Int.toNat_natCast, show Nat.min m k.bits = m from Nat.min_eq_left hm]
  rw [show (2 : Int) ^ m = ((2 ^ m : Nat) : Int) by simp]
  exact (Int.natCast_ediv _ _).symm

theorem Len32_ok (x : Nat) (hx : x < 4294967296) : bits_Len32 (x : Int) = some ((blen x : Nat) : Int) := by
  unfold bits_Len32
  have e16 : shr .u32 (x : Int) 16 = ((x / 65536 : Nat) : Int) := shrn x 16 (by decide)
  have e8 : ∀ z : Nat, shr .u32 (z : Int) 8 = ((z / 256 : Nat) : Int) := fun z => shrn z 8 (by decide)
  have fin : ∀ (k z : Nat), z < 256 → k ≤ 24 → blen x = k + blen z → (bnd (Ev.get tabL (wrap .u8 (z : Int))) fun v3 => some (wrap .i64 ((k : Int) + (wrap .i64 (Int.ofNat v3.toNat))))) = some ((blen x : Nat) : Int) := by
    intro k z hz hk hb
    have hbz := blen_mono (n := 8) (show z < 2 ^ 8 from hz)
    have hg : Ev.get tabL (z : Int) = some (UInt8.ofNat (blen z)) := by
      unfold Ev.get
      rw [if_pos (by omega), Int.toNat_natCast]
      exact tabL_get z hz
    have e : wrap .i64 (Int.ofNat (UInt8.ofNat (blen z)).toNat) = ((blen z : Nat) : Int) := by
      rw [UInt8.toNat_ofNat', show blen z % 2 ^ 8 = blen z by omega]
      exact w64n (by omega)
    rw [show wrap .u8 (z : Int) = (z : Int) from w8 (by omega) (by omega), bnd_eq hg, e, ← Int.natCast_add, w64n (by omega), hb]
  show (lt (α := Int × Int) (if (decide (65536 ≤ (x : Int))) = true then ((shr .u32 (x : Int) 16), 16) else ((x : Int), 0)) fun x1 =>
    lt (α := Int × Int) (if (decide (256 ≤ x1.1)) = true then ((shr .u32 x1.1 8), (wrap .i64 (x1.2 + 8))) else (x1.1, x1.2)) fun x2 =>
    bnd (Ev.get tabL (wrap .u8 x2.1)) fun v3 => some (wrap .i64 (x2.2 + (wrap .i64 (Int.ofNat v3.toNat))))) = _
  by_cases h1 : 65536 ≤ x
  · have b1 := blen_shift (k := 16) (show 2 ^ 16 ≤ x from h1)
    rw [show (2 : Nat) ^ 16 = 65536 from rfl] at b1
    rw [if_pos (by simp; omega), lt_s, e16]
    dsimp only
    by_cases h2 : 256 ≤ x / 65536
    · have b2 := blen_shift (k := 8) (show 2 ^ 8 ≤ x / 65536 from h2)
      rw [show (2 : Nat) ^ 8 = 256 from rfl] at b2
      rw [if_pos (by simp; omega), lt_s, e8, show wrap .i64 ((16 : Int) + 8) = ((24 : Nat) : Int) from by decide]
      exact fin 24 _ (by omega) (by omega) (by omega)
    · rw [if_neg (by simp; omega), lt_s]
      exact fin 16 _ (by omega) (by omega) (by omega)
  · rw [if_neg (by simp; omega), lt_s]
    dsimp only
    by_cases h2 : 256 ≤ x
    · have b2 := blen_shift (k := 8) (show 2 ^ 8 ≤ x from h2)
      rw [show (2 : Nat) ^ 8 = 256 from rfl] at b2
      rw [if_pos (by simp; omega), lt_s, e8, show wrap .i64 ((0 : Int) + 8) = ((8 : Nat) : Int) from by decide]
      exact fin 8 _ (by omega) (by omega) (by omega)
    · rw [if_neg (by simp; omega), lt_s]
      exact fin 0 _ (by omega) (by omega) (by omega)

theorem LZ_ok (x : Nat) (hx : x < 4294967296) : bits_LeadingZeros32 (x : Int) = some ((32 - blen x : Nat) : Int) := by
  unfold bits_LeadingZeros32
  have hb := blen_mono (n := 32) (show x < 2 ^ 32 from hx)
  rw [bnd_eq (Len32_ok x hx)]
  rw [show (32 : Int) - ((blen x : Nat) : Int) = ((32 - blen x : Nat) : Int) by omega, w64n (by omega)]

/-! ### shifts -/
theorem limbs_get (n : Nat) : ∀ i, i < lim n → (limbs n)[i]? = some (n / 4294967296 ^ i % 4294967296) := by
  intro i
  induction i generalizing n with
  | zero =>
    intro h
    have h0 : n ≠ 0 := fun e => by have := lim_zero_iff.2 e; omega
    rw [limbs_pos h0]
    simp
  | succ i ih =>
    intro h
    have h0 : n ≠ 0 := fun e => by have := lim_zero_iff.2 e; omega
    have hl : lim n = lim (n / 4294967296) + 1 := by simp only [lim]; rw [limbs_pos h0]; simp
    rw [limbs_pos h0, List.getElem?_cons_succ, ih (n / 4294967296) (by omega), Nat.div_div_eq_div_mul, Nat.pow_succ, Nat.mul_comm 4294967296]

theorem val_digits : ∀ (o : List Nat) (m : Nat), m < 4294967296 ^ o.length → (∀ i, i < o.length → o[i]? = some (m / 4294967296 ^ i % 4294967296)) → val o = m
  | [], m, h, _ => by simp at h; simp [val, h]
  | x :: o, m, h, hd => by
    have h0 := hd 0 (by simp)
    simp only [List.getElem?_cons_zero, Option.some.injEq, Nat.pow_zero, Nat.div_one] at h0
    have ih := val_digits o (m / 4294967296) (by
      rw [List.length_cons, Nat.pow_succ] at h
      exact Nat.div_lt_of_lt_mul (by rw [Nat.mul_comm]; exact h)) (fun i hi => by
      have := hd (i + 1) (by simp; omega)
      rw [List.getElem?_cons_succ] at this
      rw [this, Nat.div_div_eq_div_mul, Nat.pow_succ, Nat.mul_comm 4294967296])
    simp only [val, ih, h0]
    omega

theorem Shr_ok (n k : Nat) (hn : lim n < 1000000000) (hk : k < 2147483648) : nat_Nat_Shr (nt n) (k : Int) = some (nt (n / 2 ^ k)) := by
  unfold nat_Nat_Shr
  by_cases hk0 : k = 0
  · subst hk0
    rw [if_pos (by simp)]
    simp
  rw [if_neg (by simp; omega)]
  simp only [nt_len]
  have ew : wrap .i64 (Int.tdiv (k : Int) 32) = ((k / 32 : Nat) : Int) := by
    rw [show (32 : Int) = ((32 : Nat) : Int) from rfl, tdivn]
    exact w64n (by omega)
  have es : wrap .u64 (Int.tmod (k : Int) 32) = ((k % 32 : Nat) : Int) := by
    rw [show (32 : Int) = ((32 : Nat) : Int) from rfl, tmodn]
    exact wu64n (by omega)
  rw [ew, es]
  have hpow : (2 : Nat) ^ k = 4294967296 ^ (k / 32) * 2 ^ (k % 32) := by
    rw [show (4294967296 : Nat) = 2 ^ 32 from rfl, ← Nat.pow_mul, ← Nat.pow_add]
    congr 1
    omega
  obtain ⟨w, hw⟩ : ∃ w, w = k / 32 := ⟨_, rfl⟩
  obtain ⟨s, hs⟩ : ∃ s, s = k % 32 := ⟨_, rfl⟩
  rw [← hw, ← hs] at hpow ⊢
  have hs32 : s < 32 := by omega
  have hlt := lt_lim n
  by_cases hwl : lim n ≤ w
  · rw [if_pos (by simp; omega)]
    have : n / 2 ^ k = 0 := by
      refine Nat.div_eq_of_lt ?_
      rw [hpow]
      have h1 : 4294967296 ^ lim n ≤ 4294967296 ^ w := Nat.pow_le_pow_right (by omega) hwl
      have h2 : 4294967296 ^ w ≤ 4294967296 ^ w * 2 ^ s := Nat.le_mul_of_pos_right _ (Nat.pow_pos (by omega))
      omega
    rw [this, nt_zero]
  rw [if_neg (by simp; omega)]
  have e0 : wrap .i64 ((lim n : Int) - (w : Int)) = ((lim n - w : Nat) : Int) := by
    rw [show (lim n : Int) - (w : Int) = ((lim n - w : Nat) : Int) by omega]
    exact w64n (by omega)
  rw [e0, bnd_eq (mk_li (by omega) (by omega))]
  refine bnd_iter (fun c st => ∃ (i : Nat) (o : List Nat), st = ((i : Int), li o) ∧ i + c = lim n - w ∧ o.length = lim n - w ∧ Lt o ∧ ∀ j, j < i → o[j]? = some (n / 2 ^ k / 4294967296 ^ j % 4294967296))
    (fun x => ∃ o : List Nat, x = li o ∧ o.length = lim n - w ∧ Lt o ∧ val o = n / 2 ^ k) (lim n - w) ⟨0, List.replicate (lim n - w) 0, rfl, by omega, by simp, Lt.rep _, fun j hj => by omega⟩ ?_ ?_
  · rintro c st ⟨i, o, rfl, hic, hol, hlo, hd⟩
    rw [li_len, List.length_replicate]
    by_cases hi : i < lim n - w
    · left
      have hx := limbs_get n (i + w) (by omega)
      have gx : Ev.get (nt n) ((i + w : Nat) : Int) = some ((n / 4294967296 ^ (i + w) % 4294967296 : Nat) : Int) := get_li hx
      have eiw : wrap .i64 ((i : Int) + (w : Int)) = ((i + w : Nat) : Int) := by
        rw [← Int.natCast_add]
        exact w64n (by omega)
      have hm : ∃ t : Nat, t = (n / 4294967296 ^ (i + w)) % (4294967296 * 4294967296) ∧ (if (decide (((i + w + 1 : Nat) : Int) < (lim n : Int))) = true then
              bnd (Ev.get (nt n) ((i + w + 1 : Nat) : Int)) fun v4 => some (bor .u64 (wrap .u64 ((n / 4294967296 ^ (i + w) % 4294967296 : Nat) : Int)) (shl .u64 (wrap .u64 v4) 32))
            else some (wrap .u64 ((n / 4294967296 ^ (i + w) % 4294967296 : Nat) : Int))) = some (t : Int) := by
        have hsplit : (n / 4294967296 ^ (i + w)) % (4294967296 * 4294967296) = n / 4294967296 ^ (i + w) % 4294967296 + 4294967296 * (n / 4294967296 ^ (i + w + 1) % 4294967296) := by
          rw [Nat.mod_mul, Nat.div_div_eq_div_mul, ← Nat.pow_succ]
        by_cases h1 : i + w + 1 < lim n
        · refine ⟨_, rfl, ?_⟩
          have hy := limbs_get n (i + w + 1) h1
          have gy : Ev.get (nt n) ((i + w + 1 : Nat) : Int) = some ((n / 4294967296 ^ (i + w + 1) % 4294967296 : Nat) : Int) := get_li hy
          rw [if_pos (by simp; omega), bnd_eq gy, wu64n (by omega), wu64n (by omega), shl32 _ (by omega), or64r _ _ (by omega) (by omega), hsplit]
          congr 2
          omega
        · refine ⟨_, rfl, ?_⟩
          have h2 : n / 4294967296 ^ (i + w + 1) = 0 := by
            refine Nat.div_eq_of_lt ?_
            have : i + w + 1 = lim n := by omega
            rw [this]
            exact hlt
          rw [if_neg (by simp; omega), wu64n (by omega), hsplit, h2]
          simp
      obtain ⟨t, ht, htt⟩ := hm
      have ht64 : t < 18446744073709551616 := by
        rw [ht]
        exact Nat.mod_lt _ (by omega)
      have edig : t / 2 ^ s % 4294967296 = n / 2 ^ k / 4294967296 ^ i % 4294967296 := by
        have e1 : n / 2 ^ k / 4294967296 ^ i = n / 4294967296 ^ (i + w) / 2 ^ s := by
          rw [hpow, Nat.div_div_eq_div_mul, Nat.div_div_eq_div_mul, Nat.pow_add]
          congr 1
          grind
        rw [e1, ht]
        generalize n / 4294967296 ^ (i + w) = y
        have e2 : (4294967296 * 4294967296 : Nat) = 2 ^ s * (2 ^ (64 - s)) := by
          rw [← Nat.pow_add, show s + (64 - s) = 64 by omega]
        have e3 : (2 : Nat) ^ (64 - s) = 4294967296 * 2 ^ (32 - s) := by
          rw [show (4294967296 : Nat) = 2 ^ 32 from rfl, ← Nat.pow_add]
          congr 1
          omega
        rw [e2, Nat.mod_mul_right_div_self, e3, Nat.mod_mul_right_mod]
      have hput : put (li o) (i : Int) ((t / 2 ^ s % 4294967296 : Nat) : Int) = some (li (o.set i (t / 2 ^ s % 4294967296))) := put_li (by omega)
      refine ⟨_, c - 1, ?_, by omega, i + 1, o.set i (t / 2 ^ s % 4294967296), rfl, by omega, by simpa using hol, hlo.set (by omega), ?_⟩
      · dsimp only
        rw [if_pos (by simp; omega), eiw, bnd_eq gx, inc64 (i := i + w) (by omega), bnd_eq htt, bnd_eq (chk_t (by omega)), shrn t s (by simp only [IntKind.bits]; omega), w32m, bnd_eq hput, inc64 (by omega)]
      · intro j hj
        by_cases hji : j = i
        · subst hji
          rw [List.getElem?_set_self (by omega), edig]
        · rw [List.getElem?_set_ne (by omega)]
          exact hd j (by omega)
    · right
      have hie : i = lim n - w := by omega
      refine ⟨_, by dsimp only; rw [if_neg (by simp; omega)], o, rfl, hol, hlo, val_digits o _ ?_ (fun j hj => hd j (by omega))⟩
      rw [hol, hpow, Nat.div_lt_iff_lt_mul (Nat.mul_pos (Nat.pow_pos (by omega)) (Nat.pow_pos (by omega)))]
      have : 4294967296 ^ lim n = 4294967296 ^ (lim n - w) * 4294967296 ^ w := by rw [← Nat.pow_add]; congr 1; omega
      have h3 : 4294967296 ^ (lim n - w) * 4294967296 ^ w ≤ 4294967296 ^ (lim n - w) * (4294967296 ^ w * 2 ^ s) := Nat.mul_le_mul_left _ (Nat.le_mul_of_pos_right _ (Nat.pow_pos (by omega)))
      omega
  · rintro x ⟨o, rfl, hol, hlo, hv⟩
    rw [bnd_eq (trim_ok _ hlo (by omega)), hv]
end Go.Sh
