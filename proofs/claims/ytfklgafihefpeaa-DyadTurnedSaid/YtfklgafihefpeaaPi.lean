/- Plain words: ratios. -/
import Derived.Test.YtfklgafihefpeaaPh
set_option linter.unusedVariables false
set_option linter.unusedSimpArgs false
namespace Go.Sh
open Go.Ev Go.Nm

def dn (n : Nat) : Nat := if n = 0 then 1 else n
theorem dn_pos (n : Nat) : 0 < dn n := by unfold dn; split <;> omega
theorem dn_of {n : Nat} (h : 0 < n) : dn n = n := by unfold dn; rw [if_neg (by omega)]
theorem lim_dn {n k : Nat} (h : lim n ≤ k) (hk : 1 ≤ k) : lim (dn n) ≤ k := by
  unfold dn
  split
  · rw [lim_one1]; exact hk
  · exact h
def rt (x : Int) (n : Nat) : T_ratio_Rat := (wh x, nt n)
theorem rt0 : rt 0 0 = (([], false), []) := by simp [rt, wh0, nt_zero]
theorem rt1 (x : Int) (n : Nat) : (rt x n).1 = wh x := rfl
theorem rt2 (x : Int) (n : Nat) : (rt x n).2 = nt n := rfl

theorem down_ok (x : Int) (n : Nat) : ratio_Rat_down (rt x n) = some (nt (dn n)) := by
  unfold ratio_Rat_down dn
  rw [rt2, bnd_eq (Zero_ok n)]
  by_cases h : n = 0
  · rw [if_pos (by simp [h]), if_pos h, bnd_eq Of1]
  · rw [if_neg (by simp [h]), if_neg h]

theorem Rund_ok (x : Int) (n : Nat) : ratio_Rat_under (rt x n) = some (wh (dn n : Int)) := by
  unfold ratio_Rat_under
  have h := wOf_ok false (dn n)
  rw [show sg false (dn n) = (dn n : Int) from rfl] at h
  rw [bnd_eq (down_ok x n), bnd_eq h]

/-- A whole number by one above nothing, brought down. -/
def red (x : Int) (d : Nat) : T_ratio_Rat := rt (sg (decide (x < 0)) (x.natAbs / Nat.gcd x.natAbs d)) (d / Nat.gcd x.natAbs d)

theorem New0 (x : Int) : ratio_New (wh x) (wh 0) = some (rt 0 0, false) := by
  unfold ratio_New
  rw [wh1, bnd_eq (Zero_ok _), if_pos (by simp), rt0]

theorem New_ok (x y : Int) (hx : lim x.natAbs < 1000000000) (hy : lim y.natAbs < 1000000000) (hy0 : y ≠ 0) :
    ratio_New (wh x) (wh y) = some (rt (sg (!(decide (x < 0) == decide (y < 0))) (x.natAbs / Nat.gcd x.natAbs y.natAbs)) (y.natAbs / Nat.gcd x.natAbs y.natAbs), true) := by
  unfold ratio_New
  have hg : Nat.gcd x.natAbs y.natAbs ≠ 0 := fun h => by have := Nat.eq_zero_of_gcd_eq_zero_right h; omega
  have hgl : lim (Nat.gcd x.natAbs y.natAbs) ≤ lim y.natAbs := lim_mono (Nat.gcd_le_right _ (by omega))
  have hw := wOf_ok (!(decide (x < 0) == decide (y < 0))) (x.natAbs / Nat.gcd x.natAbs y.natAbs)
  rw [wh1, wh1, bnd_eq (Zero_ok _), if_neg (by simp; omega), bnd_eq (whSize_ok y), bnd_eq (Gcd_ok _ _ hx hy), bnd_eq (DivMod_ok _ _ hx (by omega) hg), bnd_eq (DivMod_ok _ _ hy (by omega) hg),
    bnd_eq (whNeg_ok x), bnd_eq (whNeg_ok y), bnd_eq hw]
  rfl

theorem NewN_ok (x : Int) (d : Nat) (hx : lim x.natAbs < 1000000000) (hd : lim d < 1000000000) (hd0 : 0 < d) : ratio_New (wh x) (wh (d : Int)) = some (red x d, true) := by
  have h := New_ok x (d : Int) hx (by rw [Int.natAbs_natCast]; exact hd) (by omega)
  rw [h, Int.natAbs_natCast]
  unfold red
  congr 4
  cases hx : decide (x < 0)
  · simp
  · simp

theorem RFrom_ok (z : Int) (h1 : -9223372036854775808 ≤ z) (h2 : z < 9223372036854775808) : ratio_From z = some (rt z 1) := by
  unfold ratio_From
  rw [bnd_eq (wFrom_ok z h1 h2), bnd_eq Of1]
  rfl

theorem lim_absmul {x y : Int} {j k : Nat} (hx : lim x.natAbs ≤ j) (hy : lim y.natAbs ≤ k) : lim (x * y).natAbs ≤ j + k := by
  rw [Int.natAbs_mul]
  have := lim_mul_le x.natAbs y.natAbs
  omega
theorem lim_absadd {x y : Int} {k : Nat} (hx : lim x.natAbs ≤ k) (hy : lim y.natAbs ≤ k) : lim (x + y).natAbs ≤ k + 1 := by
  refine Nat.le_trans (lim_mono (Int.natAbs_add_le x y)) (lim_add_le _ _ k hx hy)

theorem RCmp_ok (x y : Int) (n m : Nat) (hx : lim x.natAbs ≤ 200000000) (hy : lim y.natAbs ≤ 200000000) (hn : lim n ≤ 200000000) (hm : lim m ≤ 200000000) :
    ratio_Rat_Cmp (rt x n) (rt y m) = some (cmpZ (x * dn m) (y * dn n)) := by
  unfold ratio_Rat_Cmp
  have h1 := lim_dn hn (by omega)
  have h2 := lim_dn hm (by omega)
  have h3 : lim (x * (dn m : Int)).natAbs ≤ 200000000 + 200000000 := lim_absmul hx (by rw [Int.natAbs_natCast]; exact h2)
  have h4 : lim (y * (dn n : Int)).natAbs ≤ 200000000 + 200000000 := lim_absmul hy (by rw [Int.natAbs_natCast]; exact h1)
  rw [bnd_eq (Rund_ok y m), rt1, bnd_eq (wTimes_ok x (dn m) (by omega) (by rw [Int.natAbs_natCast]; omega)), bnd_eq (Rund_ok x n), rt1, bnd_eq (wTimes_ok y (dn n) (by omega) (by rw [Int.natAbs_natCast]; omega)),
    bnd_eq (wCmp_ok _ _ (by omega) (by omega))]

theorem plus_red (x y : Int) (n m : Nat) (hx : lim x.natAbs ≤ 200000000) (hy : lim y.natAbs ≤ 200000000) (hn : lim n ≤ 200000000) (hm : lim m ≤ 200000000) :
    whole_Int_Times (wh x) [wh (dn m : Int)] = some (wh (x * dn m)) ∧ whole_Int_Times (wh y) [wh (dn n : Int)] = some (wh (y * dn n)) ∧ whole_Int_Plus (wh (x * dn m)) [wh (y * dn n)] = some (wh (x * dn m + y * dn n)) ∧
    whole_Int_Times (wh (dn n : Int)) [wh (dn m : Int)] = some (wh ((dn n * dn m : Nat) : Int)) ∧ ratio_New (wh (x * dn m + y * dn n)) (wh ((dn n * dn m : Nat) : Int)) = some (red (x * dn m + y * dn n) (dn n * dn m), true) := by
  have h1 := lim_dn hn (by omega)
  have h2 := lim_dn hm (by omega)
  have h3 : lim (x * (dn m : Int)).natAbs ≤ 200000000 + 200000000 := lim_absmul hx (by rw [Int.natAbs_natCast]; exact h2)
  have h4 : lim (y * (dn n : Int)).natAbs ≤ 200000000 + 200000000 := lim_absmul hy (by rw [Int.natAbs_natCast]; exact h1)
  have h5 := lim_absadd h3 h4
  have h6 := lim_mul_le (dn n) (dn m)
  refine ⟨wTimes_ok x (dn m) (by omega) (by rw [Int.natAbs_natCast]; omega), wTimes_ok y (dn n) (by omega) (by rw [Int.natAbs_natCast]; omega), wPlus_ok _ _ (by omega) (by omega), ?_,
    NewN_ok _ _ (by omega) (by omega) (Nat.mul_pos (dn_pos n) (dn_pos m))⟩
  rw [Int.natCast_mul]
  exact wTimes_ok _ _ (by rw [Int.natAbs_natCast]; omega) (by rw [Int.natAbs_natCast]; omega)

theorem RPlus_ok (x y : Int) (n m : Nat) (hx : lim x.natAbs ≤ 200000000) (hy : lim y.natAbs ≤ 200000000) (hn : lim n ≤ 200000000) (hm : lim m ≤ 200000000) :
    ratio_Rat_Plus (rt x n) [rt y m] = some (red (x * dn m + y * dn n) (dn n * dn m)) := by
  unfold ratio_Rat_Plus
  obtain ⟨e1, e2, e3, e4, e5⟩ := plus_red x y n m hx hy hn hm
  rw [bnd_eq (iter_one (s1 := (1, (red (x * dn m + y * dn n) (dn n * dn m)).1.1, (red (x * dn m + y * dn n) (dn n * dn m)).1.2, (red (x * dn m + y * dn n) (dn n * dn m)).2))
    (x := ((red (x * dn m + y * dn n) (dn n * dn m)).1.1, (red (x * dn m + y * dn n) (dn n * dn m)).1.2, (red (x * dn m + y * dn n) (dn n * dn m)).2)) ?_ ?_)]
  · dsimp only [len1]
    rw [if_pos (by simp), get1, bnd_s, bnd_eq (Rund_ok y m)]
    rw [show ((rt x n).1.1, (rt x n).1.2) = wh x from rfl, bnd_eq e1, show (wh x, (rt x n).2) = rt x n from rfl, bnd_eq (Rund_ok x n), rt1, bnd_eq e2, bnd_eq e3, bnd_eq (Rund_ok x n), bnd_eq (Rund_ok y m), bnd_eq e4, bnd_eq e5]
    rfl
  · dsimp only [len1]
    rw [if_neg (by simp)]

theorem RTimes_ok (x y : Int) (n m : Nat) (hx : lim x.natAbs ≤ 200000000) (hy : lim y.natAbs ≤ 200000000) (hn : lim n ≤ 200000000) (hm : lim m ≤ 200000000) :
    ratio_Rat_Times (rt x n) [rt y m] = some (red (x * y) (dn n * dn m)) := by
  unfold ratio_Rat_Times
  have h1 := lim_dn hn (by omega)
  have h2 := lim_dn hm (by omega)
  have h3 : lim (x * y).natAbs ≤ 200000000 + 200000000 := lim_absmul hx hy
  have h6 := lim_mul_le (dn n) (dn m)
  have e1 := wTimes_ok x y (by omega) (by omega)
  have e4 : whole_Int_Times (wh (dn n : Int)) [wh (dn m : Int)] = some (wh ((dn n * dn m : Nat) : Int)) := by
    rw [Int.natCast_mul]
    exact wTimes_ok _ _ (by rw [Int.natAbs_natCast]; omega) (by rw [Int.natAbs_natCast]; omega)
  have e5 := NewN_ok (x * y) (dn n * dn m) (by omega) (by omega) (Nat.mul_pos (dn_pos n) (dn_pos m))
  rw [bnd_eq (iter_one (s1 := (1, (red (x * y) (dn n * dn m)).1.1, (red (x * y) (dn n * dn m)).1.2, (red (x * y) (dn n * dn m)).2))
    (x := ((red (x * y) (dn n * dn m)).1.1, (red (x * y) (dn n * dn m)).1.2, (red (x * y) (dn n * dn m)).2)) ?_ ?_)]
  · dsimp only [len1]
    rw [if_pos (by simp), get1, bnd_s]
    rw [show ((rt x n).1.1, (rt x n).1.2) = wh x from rfl, rt1, bnd_eq e1, show (wh x, (rt x n).2) = rt x n from rfl, bnd_eq (Rund_ok x n), bnd_eq (Rund_ok y m), bnd_eq e4, bnd_eq e5]
    rfl
  · dsimp only [len1]
    rw [if_neg (by simp)]

theorem RLimbs_ok (x : Int) (n : Nat) : ratio_Rat_Limbs (rt x n) = some (mxI (lim x.natAbs) (lim (dn n))) := by
  unfold ratio_Rat_Limbs
  rw [rt1, wh1, bnd_eq (Limbs_ok _), bnd_eq (down_ok x n), bnd_eq (Limbs_ok _)]

theorem truth_ok (b : Bool) : dyad_truth b = some (if b = true then rt 1 1 else rt 0 0) := by
  unfold dyad_truth
  cases b with
  | true => rw [if_pos rfl, if_pos rfl, bnd_eq (RFrom_ok 1 (by omega) (by omega))]
  | false => rw [if_neg (by simp), if_neg (by simp), rt0]
end Go.Sh
