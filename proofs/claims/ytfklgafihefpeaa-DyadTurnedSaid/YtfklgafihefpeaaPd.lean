/- Plain words: shifts to the left, and the steps of a long division. -/
import Derived.Test.YtfklgafihefpeaaPc
set_option linter.unusedVariables false
set_option linter.unusedSimpArgs false
namespace Go.Sh
open Go.Ev Go.Nm

theorem or_low (s a c : Nat) (hs : s ≤ 32) (hc : c < 2 ^ s) (ha : 2 ^ s * a < 4294967296) : bor .u32 ((c : Nat) : Int) ((2 ^ s * a : Nat) : Int) = ((2 ^ s * a + c : Nat) : Int) := by
  have h1 : 2 ^ s ≤ 2 ^ 32 := Nat.pow_le_pow_right (by omega) hs
  have hc32 : c < 4294967296 := Nat.lt_of_lt_of_le hc h1
  have h2 : c ||| 2 ^ s * a = 2 ^ s * a + c := by rw [Nat.or_comm, Nat.two_pow_add_eq_or_of_lt hc]
  rw [or32 c (2 ^ s * a) hc32 ha, h2]

theorem shl_lin {a b c p q r t : Nat} (h1 : b + p = a + (q + p)) (h2 : c = b + r) (h3 : q + r = t) : c = a + t := by omega

theorem Shl_ok (n k : Nat) (hn : lim n < 1000000000) (hk : k < 2147483648) : nat_Nat_Shl (nt n) (k : Int) = some (nt (n * 2 ^ k)) := by
  unfold nat_Nat_Shl
  simp only [nt_len]
  by_cases hk0 : k = 0
  · subst hk0
    rw [if_pos (by simp), lt_s, if_pos rfl]
    simp
  by_cases hn0 : n = 0
  · subst hn0
    have : lim 0 = 0 := lim_zero_iff.2 rfl
    rw [if_neg (by simp; omega), lt_s, if_pos (by simp [this])]
    simp
  have hl0 : lim n ≠ 0 := fun h => hn0 (lim_zero_iff.1 h)
  rw [if_neg (by simp; omega), lt_s, if_neg (by simp; omega)]
  have ew : wrap .i64 (Int.tdiv (k : Int) 32) = ((k / 32 : Nat) : Int) := by
    rw [show (32 : Int) = ((32 : Nat) : Int) from rfl, tdivn]
    exact w64n (by omega)
  have es : wrap .u64 (Int.tmod (k : Int) 32) = ((k % 32 : Nat) : Int) := by
    rw [show (32 : Int) = ((32 : Nat) : Int) from rfl, tmodn]
    exact wu64n (by omega)
  rw [ew, es]
  have hpow : (2 : Nat) ^ k = 4294967296 ^ (k / 32) * 2 ^ (k % 32) := by
    rw [show (4294967296 : Nat) = 2 ^ 32 from rfl, ← Nat.pow_mul, ← Nat.pow_add]
    congr 1
    omega
  obtain ⟨w, hw⟩ : ∃ w, w = k / 32 := ⟨_, rfl⟩
  obtain ⟨s, hs⟩ : ∃ s, s = k % 32 := ⟨_, rfl⟩
  rw [← hw, ← hs] at hpow ⊢
  have hs32 : s < 32 := by omega
  have e0 : wrap .i64 ((wrap .i64 ((lim n : Int) + (w : Int))) + 1) = ((lim n + w + 1 : Nat) : Int) := by
    rw [← Int.natCast_add, w64n (by omega)]
    exact inc64 (by omega)
  rw [e0, bnd_eq (mk_li (by omega) (by omega))]
  have hp32 : (2 : Nat) ^ s * 2 ^ (32 - s) = 4294967296 := by
    rw [← Nat.pow_add, show s + (32 - s) = 32 by omega]
  have hps : 0 < (2 : Nat) ^ s := Nat.pow_pos (by omega)
  refine bnd_iter (fun c st => ∃ (i : Nat) (o : List Nat) (h : Nat), st = ((i : Int), li o) ∧ i + c = lim n ∧ o.length = lim n + w + 1 ∧ Lt o ∧ h < 2 ^ s ∧ o[i + w]? = some h ∧ (∀ j, i + w < j → j < lim n + w + 1 → o[j]? = some 0) ∧ val o = val ((limbs n).take i) * 2 ^ k)
    (fun x => ∃ o : List Nat, x = li o ∧ o.length = lim n + w + 1 ∧ Lt o ∧ val o = n * 2 ^ k) (lim n) ⟨0, List.replicate (lim n + w + 1) 0, 0, rfl, by omega, by simp, Lt.rep _, hps, by rw [Nat.zero_add, List.getElem?_replicate, if_pos (by omega)], by intro j _ hj; simp [hj], by simp [val_rep, val]⟩ ?_ ?_
  · rintro c st ⟨i, o, h, rfl, hic, hol, hlo, hh, hoh, hz, hv⟩
    by_cases hi : i < lim n
    · left
      have hx : (limbs n)[i]? = some (limbs n)[i] := List.getElem?_eq_getElem hi
      revert hx
      generalize (limbs n)[i] = x
      intro hx
      have hxl := (limbs_lt n).get hx
      have gx : Ev.get (nt n) (i : Int) = some (x : Int) := get_li hx
      have eiw : wrap .i64 ((i : Int) + (w : Int)) = ((i + w : Nat) : Int) := by
        rw [← Int.natCast_add]
        exact w64n (by omega)
      have hxs : x * 2 ^ s < 18446744073709551616 := by
        have h1 : x * 2 ^ s ≤ 4294967295 * 2 ^ s := Nat.mul_le_mul_right _ (by omega)
        have h2 : (2 : Nat) ^ s ≤ 2 ^ 31 := Nat.pow_le_pow_right (by omega) (by omega)
        omega
      have et : shl .u64 (wrap .u64 (x : Int)) (s : Int) = ((x * 2 ^ s : Nat) : Int) := by
        rw [wu64n (by omega)]
        show IntKind.wrap .u64 ((x : Int) * 2 ^ Nat.min (s : Int).toNat IntKind.u64.bits) = _
        rw [Int.toNat_natCast, show Nat.min s IntKind.u64.bits = s from Nat.min_eq_left (by simp only [IntKind.bits]; omega)]
        rw [show (x : Int) * 2 ^ s = ((x * 2 ^ s : Nat) : Int) by simp]
        exact wu64n hxs
      have go : Ev.get (li o) ((i + w : Nat) : Int) = some (h : Int) := get_li hoh
      -- the low limb is a multiple of 2 ^ s
      have hmod : x * 2 ^ s % 4294967296 = 2 ^ s * (x % 2 ^ (32 - s)) := by
        rw [← hp32, Nat.mul_comm x, Nat.mul_mod_mul_left]
      have hlow : 2 ^ s * (x % 2 ^ (32 - s)) < 4294967296 := by rw [← hmod]; exact Nat.mod_lt _ (by omega)
      have hlow2 : 2 ^ s * (x % 2 ^ (32 - s)) + h < 4294967296 := by
        have h1 : x % 2 ^ (32 - s) < 2 ^ (32 - s) := Nat.mod_lt _ (Nat.pow_pos (by omega))
        have h2 : 2 ^ s * (x % 2 ^ (32 - s) + 1) ≤ 2 ^ s * 2 ^ (32 - s) := Nat.mul_le_mul_left _ h1
        rw [hp32, Nat.mul_add] at h2
        omega
      have ebor : bor .u32 (h : Int) (wrap .u32 ((x * 2 ^ s : Nat) : Int)) = ((2 ^ s * (x % 2 ^ (32 - s)) + h : Nat) : Int) := by
        rw [w32m, hmod]
        exact or_low s _ h (by omega) hh hlow
      have hhi : x * 2 ^ s / 4294967296 < 2 ^ s := by
        rw [Nat.div_lt_iff_lt_mul (by omega), Nat.mul_comm]
        exact Nat.mul_lt_mul_of_pos_left hxl hps
      have hhi32 : x * 2 ^ s / 4294967296 < 4294967296 := by
        have h2 : (2 : Nat) ^ s ≤ 2 ^ 31 := Nat.pow_le_pow_right (by omega) (by omega)
        omega
      have hput : put (li o) ((i + w : Nat) : Int) ((2 ^ s * (x % 2 ^ (32 - s)) + h : Nat) : Int) = some (li (o.set (i + w) (2 ^ s * (x % 2 ^ (32 - s)) + h))) := put_li (by omega)
      have hput2 : put (li (o.set (i + w) (2 ^ s * (x % 2 ^ (32 - s)) + h))) ((i + w + 1 : Nat) : Int) ((x * 2 ^ s / 4294967296 : Nat) : Int) = some (li ((o.set (i + w) (2 ^ s * (x % 2 ^ (32 - s)) + h)).set (i + w + 1) (x * 2 ^ s / 4294967296))) := put_li (by simp; omega)
      refine ⟨_, c - 1, ?_, by omega, i + 1, (o.set (i + w) (2 ^ s * (x % 2 ^ (32 - s)) + h)).set (i + w + 1) (x * 2 ^ s / 4294967296), x * 2 ^ s / 4294967296, rfl, by omega, by simpa using hol, (hlo.set hlow2).set hhi32, hhi, ?_, ?_, ?_⟩
      · dsimp only
        rw [if_pos (by simp; omega), bnd_eq gx, bnd_eq (chk_t (by omega)), eiw, bnd_eq go, et, ebor, bnd_eq hput, inc64 (i := i + w) (by omega), shr32, w32n hhi32, bnd_eq hput2, inc64 (by omega)]
      · rw [show i + 1 + w = i + w + 1 by omega, List.getElem?_set_self (by simp; omega)]
      · intro j h1 h2
        rw [List.getElem?_set_ne (by omega), List.getElem?_set_ne (by omega)]
        exact hz j (by omega) h2
      · have h1 := val_set hoh (2 ^ s * (x % 2 ^ (32 - s)) + h)
        have h2 := val_set (o := o.set (i + w) (2 ^ s * (x % 2 ^ (32 - s)) + h)) (k := i + w + 1) (old := 0) (by rw [List.getElem?_set_ne (by omega)]; exact hz _ (by omega) (by omega)) (x * 2 ^ s / 4294967296)
        have h3 := digit (4294967296 ^ (i + w)) (x * 2 ^ s)
        rw [hmod] at h3
        have h4 : 4294967296 ^ i * x * 2 ^ k = 4294967296 ^ (i + w) * (x * 2 ^ s) := by
          rw [hpow, Nat.pow_add, Nat.mul_assoc, Nat.mul_assoc, Nat.mul_left_comm x]
        rw [val_take_succ, hx, Option.getD_some, Nat.add_mul, ← hv, h4]
        rw [Nat.mul_add] at h1
        rw [Nat.pow_succ, Nat.mul_zero, Nat.add_zero] at h2
        exact shl_lin h1 h2 h3
    · right
      have hie : i = lim n := by omega
      refine ⟨_, by dsimp only; rw [if_neg (by simp; omega)], o, rfl, hol, hlo, ?_⟩
      rw [hv, hie, take_limbs (Nat.le_refl _)]
  · rintro x ⟨o, rfl, hol, hlo, hv⟩
    rw [bnd_eq (trim_ok _ hlo (by omega)), hv]

/-! ### a multiple taken away from a part -/
theorem getS_li {l : List Nat} {off n i x : Nat} (hi : i < n) (h : l[off + i]? = some x) : getS (li l) off n (i : Int) = some (x : Int) := by
  unfold getS
  rw [if_pos (by omega), Int.toNat_natCast]
  simp [li, h]
theorem putS_li {l : List Nat} {off n i x : Nat} (hi : i < n) (h : off + i < l.length) : putS (li l) off n (i : Int) (x : Int) = some (li (l.set (off + i) x)) := by
  unfold putS
  rw [if_pos (by rw [li_len]; omega), Int.toNat_natCast]
  simp [li, List.map_set]

theorem under_ok (o vv : List Nat) (j g : Nat) (hlo : Lt o) (hvv : Lt vv) (hj : j + (vv.length + 1) ≤ o.length) (hg : g < 4294967296) (hlen : vv.length < 1000000000) :
    ∃ (o' : List Nat) (br : Nat), nat_under (li o) j (vv.length + 1) (li vv) (g : Int) = some (decide (br = 1), li o') ∧ Lt o' ∧ o'.length = o.length ∧ br ≤ 1 ∧ (∀ i, i < j ∨ j + (vv.length + 1) ≤ i → o'[i]? = o[i]?) ∧
      val o' + 4294967296 ^ j * (g * val vv) = val o + 4294967296 ^ (j + (vv.length + 1)) * br := by
  unfold nat_under
  simp only [li_len]
  obtain ⟨x, h1, i1, o1, c1, b1, rfl, rfl, h3, h4, h5, h6, h7, h8⟩ := iter_inv (b := fun s1 : Int × Int × Int × List Int =>
      if (decide (s1.2.2.1 < (vv.length : Int))) = true then
        bnd (Ev.get (li vv) s1.2.2.1) fun v2 =>
        bnd (getS s1.2.2.2 j (vv.length + 1) s1.2.2.1) fun v3 =>
        bnd (bits_Sub32 v3 (wrap .u32 (wrap .u64 ((wrap .u64 ((g : Int) * (wrap .u64 v2))) + s1.1))) s1.2.1) fun v4 =>
        bnd (putS s1.2.2.2 j (vv.length + 1) s1.2.2.1 v4.1) fun v5 =>
        some (.inl ((shr .u64 (wrap .u64 ((wrap .u64 ((g : Int) * (wrap .u64 v2))) + s1.1)) 32), v4.2, (wrap .i64 (s1.2.2.1 + 1)), v5))
      else
        some (.inr (s1.1, s1.2.1, s1.2.2.2)))
    (fun k s => ∃ (i : Nat) (o1 : List Nat) (c b : Nat), s = ((c : Int), (b : Int), (i : Int), li o1) ∧ i + k = vv.length ∧ Lt o1 ∧ o1.length = o.length ∧ c < 4294967296 ∧ b ≤ 1 ∧ (∀ l, l < j ∨ j + i ≤ l → o1[l]? = o[l]?) ∧
      val o1 + 4294967296 ^ j * (g * val (vv.take i)) = val o + 4294967296 ^ (j + i) * (b + c))
    (fun x => ∃ (i : Nat) (o1 : List Nat) (c b : Nat), x = ((c : Int), (b : Int), li o1) ∧ i = vv.length ∧ Lt o1 ∧ o1.length = o.length ∧ c < 4294967296 ∧ b ≤ 1 ∧ (∀ l, l < j ∨ j + i ≤ l → o1[l]? = o[l]?) ∧
      val o1 + 4294967296 ^ j * (g * val (vv.take i)) = val o + 4294967296 ^ (j + i) * (b + c))
    (by
      rintro k s ⟨i, o1, c, b, rfl, hik, hl1, hol, hc, hb, hs, hv⟩
      by_cases hi : i < vv.length
      · left
        have hx : vv[i]? = some vv[i] := List.getElem?_eq_getElem hi
        revert hx
        generalize vv[i] = x
        intro hx
        have hxl := hvv.get hx
        have hu : o1[j + i]? = some o1[j + i] := List.getElem?_eq_getElem (by omega)
        revert hu
        generalize o1[j + i] = u
        intro hu
        have hul := hl1.get hu
        have gx : Ev.get (li vv) (i : Int) = some (x : Int) := get_li hx
        have gu : getS (li o1) j (vv.length + 1) (i : Int) = some (u : Int) := getS_li (by omega) hu
        have hgx : g * x ≤ 4294967295 * 4294967295 := Nat.mul_le_mul (by omega) (by omega)
        have et : wrap .u64 ((wrap .u64 ((g : Int) * (wrap .u64 (x : Int)))) + (c : Int)) = ((g * x + c : Nat) : Int) := by
          rw [wu64n (n := x) (by omega), ← Int.natCast_mul, wu64n (n := g * x) (by omega), ← Int.natCast_add, wu64n (by omega)]
        obtain ⟨d, hd⟩ : ∃ d : Nat, (d : Int) = ((u : Int) - ((g * x + c) % 4294967296 : Nat) - b) % 4294967296 := ⟨(((u : Int) - ((g * x + c) % 4294967296 : Nat) - b) % 4294967296).toNat, by omega⟩
        have hcall := Sub32_ok u ((g * x + c) % 4294967296) b hul (Nat.mod_lt _ (by omega)) hb
        rw [← hd] at hcall
        obtain ⟨b', hb'⟩ : ∃ b', b' = if u < (g * x + c) % 4294967296 + b then 1 else 0 := ⟨_, rfl⟩
        have hdb : u + 4294967296 * b' = (g * x + c) % 4294967296 + b + d := by
          rw [hb']
          split <;> omega
        have hb2 : b' ≤ 1 := by rw [hb']; split <;> omega
        rw [← hb'] at hcall
        have hput : putS (li o1) j (vv.length + 1) (i : Int) (d : Int) = some (li (o1.set (j + i) d)) := putS_li (by omega) (by omega)
        refine ⟨_, k - 1, ?_, by omega, i + 1, o1.set (j + i) d, (g * x + c) / 4294967296, b', rfl, by omega, hl1.set (by omega), by simpa using hol, by omega, hb2, ?_, ?_⟩
        · dsimp only
          rw [if_pos (by simp; omega), bnd_eq gx, bnd_eq gu, et, w32m, bnd_eq hcall, bnd_eq hput, shr32, inc64 (by omega)]
        · intro l hl
          rw [List.getElem?_set_ne (by omega)]
          exact hs l (by omega)
        · have h1 := val_set hu d
          rw [val_take_succ, hx]
          simp only [Option.getD_some]
          have h2 := congrArg (4294967296 ^ (j + i) * ·) hdb
          simp only [Nat.mul_add] at h2
          have h3 := digit (4294967296 ^ (j + i)) (g * x + c)
          rw [Nat.mul_add (4294967296 ^ (j + i)) (g * x) c] at h3
          have h4 : 4294967296 ^ j * (g * (4294967296 ^ i * x)) = 4294967296 ^ (j + i) * (g * x) := by
            rw [Nat.pow_add]
            grind
          rw [Nat.mul_add, Nat.mul_add, h4, ← Nat.add_assoc j i 1, Nat.pow_succ, Nat.mul_add]
          rw [Nat.mul_add] at hv
          rw [Nat.mul_assoc _ 4294967296 b']
          omega
      · right
        exact ⟨_, by dsimp only; rw [if_neg (by simp; omega)], i, o1, c, b, rfl, by omega, hl1, hol, hc, hb, hs, hv⟩)
    vv.length (0, 0, 0, li o) ⟨0, o, 0, 0, rfl, by omega, hlo, rfl, by omega, by omega, fun _ _ => rfl, by simp [val]⟩
  rw [bnd_eq h1]
  dsimp only
  rw [List.take_length] at h8
  have hu : o1[j + vv.length]? = some o1[j + vv.length] := List.getElem?_eq_getElem (by omega)
  revert hu
  generalize o1[j + vv.length] = u
  intro hu
  have hul := h3.get hu
  have gu : getS (li o1) j (vv.length + 1) ((vv.length : Nat) : Int) = some (u : Int) := getS_li (by omega) hu
  obtain ⟨d, hd⟩ : ∃ d : Nat, (d : Int) = ((u : Int) - (c1 : Nat) - b1) % 4294967296 := ⟨(((u : Int) - (c1 : Nat) - b1) % 4294967296).toNat, by omega⟩
  have hcall := Sub32_ok u c1 b1 hul h5 h6
  rw [← hd] at hcall
  obtain ⟨b', hb'⟩ : ∃ b', b' = if u < c1 + b1 then 1 else 0 := ⟨_, rfl⟩
  have hdb : u + 4294967296 * b' = c1 + b1 + d := by
    rw [hb']
    split <;> omega
  have hb2 : b' ≤ 1 := by rw [hb']; split <;> omega
  rw [← hb'] at hcall
  have hput : putS (li o1) j (vv.length + 1) ((vv.length : Nat) : Int) (d : Int) = some (li (o1.set (j + vv.length) d)) := putS_li (by omega) (by omega)
  refine ⟨o1.set (j + vv.length) d, b', ?_, h3.set (by omega), by simpa using h4, hb2, ?_, ?_⟩
  · rw [bnd_eq gu, w32n h5, bnd_eq hcall, bnd_eq hput]
    congr 2
    exact decide_eq_decide.2 (by omega)
  · intro l hl
    rw [List.getElem?_set_ne (by omega)]
    exact h7 l (by omega)
  · have h9 := val_set hu d
    have h10 := congrArg (4294967296 ^ (j + vv.length) * ·) hdb
    simp only [Nat.mul_add] at h10
    rw [← Nat.add_assoc j, Nat.pow_succ, Nat.mul_assoc]
    rw [Nat.mul_add] at h8
    omega

theorem back_ok (o vv : List Nat) (j : Nat) (hlo : Lt o) (hvv : Lt vv) (hj : j + (vv.length + 1) ≤ o.length) (hlen : vv.length < 1000000000) :
    ∃ (o' : List Nat) (t : Nat), nat_back (li o) j (vv.length + 1) (li vv) = some ((), li o') ∧ Lt o' ∧ o'.length = o.length ∧ (∀ i, i < j ∨ j + (vv.length + 1) ≤ i → o'[i]? = o[i]?) ∧
      val o' + 4294967296 ^ (j + (vv.length + 1)) * t = val o + 4294967296 ^ j * val vv := by
  unfold nat_back
  simp only [li_len]
  obtain ⟨x, h1, i1, o1, c1, rfl, rfl, h3, h4, h5, h7, h8⟩ := iter_inv (b := fun s1 : Int × Int × List Int =>
      if (decide (s1.2.1 < (vv.length : Int))) = true then
        bnd (Ev.get (li vv) s1.2.1) fun v2 =>
        bnd (getS s1.2.2 j (vv.length + 1) s1.2.1) fun v3 =>
        bnd (bits_Add32 v3 v2 s1.1) fun v4 =>
        bnd (putS s1.2.2 j (vv.length + 1) s1.2.1 v4.1) fun v5 =>
        some (.inl (v4.2, (wrap .i64 (s1.2.1 + 1)), v5))
      else
        some (.inr (s1.1, s1.2.2)))
    (fun k s => ∃ (i : Nat) (o1 : List Nat) (c : Nat), s = ((c : Int), (i : Int), li o1) ∧ i + k = vv.length ∧ Lt o1 ∧ o1.length = o.length ∧ c ≤ 1 ∧ (∀ l, l < j ∨ j + i ≤ l → o1[l]? = o[l]?) ∧
      val o1 + 4294967296 ^ (j + i) * c = val o + 4294967296 ^ j * val (vv.take i))
    (fun x => ∃ (i : Nat) (o1 : List Nat) (c : Nat), x = ((c : Int), li o1) ∧ i = vv.length ∧ Lt o1 ∧ o1.length = o.length ∧ c ≤ 1 ∧ (∀ l, l < j ∨ j + i ≤ l → o1[l]? = o[l]?) ∧
      val o1 + 4294967296 ^ (j + i) * c = val o + 4294967296 ^ j * val (vv.take i))
    (by
      rintro k s ⟨i, o1, c, rfl, hik, hl1, hol, hc, hs, hv⟩
      by_cases hi : i < vv.length
      · left
        have hx : vv[i]? = some vv[i] := List.getElem?_eq_getElem hi
        revert hx
        generalize vv[i] = x
        intro hx
        have hxl := hvv.get hx
        have hu : o1[j + i]? = some o1[j + i] := List.getElem?_eq_getElem (by omega)
        revert hu
        generalize o1[j + i] = u
        intro hu
        have hul := hl1.get hu
        have gx : Ev.get (li vv) (i : Int) = some (x : Int) := get_li hx
        have gu : getS (li o1) j (vv.length + 1) (i : Int) = some (u : Int) := getS_li (by omega) hu
        have hcall := Add32_ok u x c hul hxl (by omega)
        have hput : putS (li o1) j (vv.length + 1) (i : Int) (((u + x + c) % 4294967296 : Nat) : Int) = some (li (o1.set (j + i) ((u + x + c) % 4294967296))) := putS_li (by omega) (by omega)
        refine ⟨_, k - 1, ?_, by omega, i + 1, o1.set (j + i) ((u + x + c) % 4294967296), (u + x + c) / 4294967296, rfl, by omega, hl1.set (by omega), by simpa using hol, by omega, ?_, ?_⟩
        · dsimp only
          rw [if_pos (by simp; omega), bnd_eq gx, bnd_eq gu, bnd_eq hcall, bnd_eq hput, inc64 (by omega)]
        · intro l hl
          rw [List.getElem?_set_ne (by omega)]
          exact hs l (by omega)
        · have h1 := val_set hu ((u + x + c) % 4294967296)
          rw [val_take_succ, hx]
          simp only [Option.getD_some]
          have h3 := digit (4294967296 ^ (j + i)) (u + x + c)
          rw [Nat.mul_add, Nat.mul_add] at h3
          have h4 : 4294967296 ^ j * (4294967296 ^ i * x) = 4294967296 ^ (j + i) * x := by
            rw [Nat.pow_add]
            grind
          rw [Nat.mul_add, h4, ← Nat.add_assoc j i 1, Nat.pow_succ]
          omega
      · right
        exact ⟨_, by dsimp only; rw [if_neg (by simp; omega)], i, o1, c, rfl, by omega, hl1, hol, hc, hs, hv⟩)
    vv.length (0, 0, li o) ⟨0, o, 0, rfl, by omega, hlo, rfl, by omega, fun _ _ => rfl, by simp [val]⟩
  rw [bnd_eq h1]
  dsimp only
  rw [List.take_length] at h8
  have hu : o1[j + vv.length]? = some o1[j + vv.length] := List.getElem?_eq_getElem (by omega)
  revert hu
  generalize o1[j + vv.length] = u
  intro hu
  have hul := h3.get hu
  have gu : getS (li o1) j (vv.length + 1) ((vv.length : Nat) : Int) = some (u : Int) := getS_li (by omega) hu
  have hput : putS (li o1) j (vv.length + 1) ((vv.length : Nat) : Int) (((u + c1) % 4294967296 : Nat) : Int) = some (li (o1.set (j + vv.length) ((u + c1) % 4294967296))) := putS_li (by omega) (by omega)
  refine ⟨o1.set (j + vv.length) ((u + c1) % 4294967296), (u + c1) / 4294967296, ?_, h3.set (Nat.mod_lt _ (by omega)), by simpa using h4, ?_, ?_⟩
  · rw [bnd_eq gu, ← Int.natCast_add, w32m, bnd_eq hput]
  · intro l hl
    rw [List.getElem?_set_ne (by omega)]
    exact h7 l (by omega)
  · have h9 := val_set hu ((u + c1) % 4294967296)
    have h10 := digit (4294967296 ^ (j + vv.length)) (u + c1)
    rw [Nat.mul_add] at h10
    rw [← Nat.add_assoc j, Nat.pow_succ]
    omega
end Go.Sh
