/- Plain words: whole numbers. -/
import Derived.Test.YtfklgafihefpeaaPg
set_option linter.unusedVariables false
set_option linter.unusedSimpArgs false
namespace Go.Sh
open Go.Ev Go.Nm

def wh (z : Int) : T_whole_Int := (nt z.natAbs, decide (z < 0))
/-- A number with a sign. -/
def sg (neg : Bool) (n : Nat) : Int := if neg = true then -(n : Int) else n
theorem sg_abs (b : Bool) (n : Nat) : (sg b n).natAbs = n := by unfold sg; split <;> omega
theorem sg_of (z : Int) : sg (decide (z < 0)) z.natAbs = z := by
  unfold sg
  by_cases h : z < 0
  · rw [if_pos (by simpa using h)]; omega
  · rw [if_neg (by simpa using h)]; omega
theorem wh0 : wh 0 = ([], false) := by simp [wh, nt_zero]
theorem wh_nat (n : Nat) : wh (n : Int) = (nt n, false) := by
  unfold wh
  rw [Int.natAbs_natCast]
  simp

theorem wOf_ok (b : Bool) (n : Nat) : whole_Of b (nt n) = some (wh (sg b n)) := by
  unfold whole_Of
  cases b with
  | false => rw [if_neg (by simp), bnd_s]; unfold sg wh; simp
  | true =>
    rw [if_pos rfl, bnd_eq (Zero_ok n), bnd_s]
    unfold wh
    rw [sg_abs]
    congr 2
    unfold sg
    by_cases h : n = 0
    · simp [h]
    · simp only [h, decide_false, Bool.not_false, if_pos]
      simp; omega

theorem wFrom_ok (z : Int) (h1 : -9223372036854775808 ≤ z) (h2 : z < 9223372036854775808) : whole_From z = some (wh z) := by
  unfold whole_From
  by_cases h : z < 0
  · have e : wrap .u64 ((wrap .u64 (wrap .i64 (0 - (wrap .i64 (z + 1))))) + 1) = ((z.natAbs : Nat) : Int) := by
      rw [show wrap .i64 (z + 1) = z + 1 from w64 (by omega) (by omega), show wrap .i64 (0 - (z + 1)) = ((z.natAbs - 1 : Nat) : Int) from by rw [show wrap .i64 (0 - (z + 1)) = 0 - (z + 1) from w64 (by omega) (by omega)]; omega,
        wu64n (by omega), show ((z.natAbs - 1 : Nat) : Int) + 1 = ((z.natAbs : Nat) : Int) by omega, wu64n (by omega)]
    rw [if_pos (by simpa using h), e, bnd_eq (Of_ok _ (by omega))]
    unfold wh
    simp [h]
  · have e : wrap .u64 z = ((z.natAbs : Nat) : Int) := by rw [show wrap .u64 z = z from wu64 (by omega) (by omega)]; omega
    rw [if_neg (by simpa using h), e, bnd_eq (Of_ok _ (by omega))]
    unfold wh
    simp [h]

theorem wh1 (z : Int) : (wh z).1 = nt z.natAbs := rfl
theorem wh2 (z : Int) : (wh z).2 = decide (z < 0) := rfl
theorem whNeg_ok (z : Int) : whole_Int_Neg (wh z) = some (decide (z < 0)) := rfl
theorem whSize_ok (z : Int) : whole_Int_Size (wh z) = some (nt z.natAbs) := rfl

theorem sg_mul (x y : Int) : sg (!(decide (x < 0) == decide (y < 0))) (x.natAbs * y.natAbs) = x * y := by
  obtain ⟨a, ha⟩ := Int.eq_nat_or_neg x
  obtain ⟨b, hb⟩ := Int.eq_nat_or_neg y
  unfold sg
  by_cases h1 : x < 0 <;> by_cases h2 : y < 0
  · simp only [h1, h2, decide_true, beq_self_eq_true, Bool.not_true, Bool.false_eq_true, if_false]
    rw [Int.natCast_mul, show (x.natAbs : Int) = -x by omega, show (y.natAbs : Int) = -y by omega, Int.neg_mul_neg]
  · simp only [h1, h2, decide_true, decide_false]
    rw [if_pos (by rfl), Int.natCast_mul, show (x.natAbs : Int) = -x by omega, show (y.natAbs : Int) = y by omega, Int.neg_mul, Int.neg_neg]
  · simp only [h1, h2, decide_true, decide_false]
    rw [if_pos (by rfl), Int.natCast_mul, show (x.natAbs : Int) = x by omega, show (y.natAbs : Int) = -y by omega, Int.mul_neg, Int.neg_neg]
  · simp only [h1, h2, decide_false, beq_self_eq_true, Bool.not_true, Bool.false_eq_true, if_false]
    rw [Int.natCast_mul, show (x.natAbs : Int) = x by omega, show (y.natAbs : Int) = y by omega]

theorem i01 : wrap .i64 ((0 : Int) + 1) = 1 := by decide
theorem get1 {α : Type} (a : α) : Ev.get [a] 0 = some a := rfl
theorem len1 {α : Type} (a : α) : (([a] : List α).length : Int) = 1 := rfl

/-- A loop over a list of one. -/
theorem iter_one {σ ξ : Type} {b : σ → Option (σ ⊕ ξ)} {s s1 : σ} {x : ξ} (h1 : b s = some (.inl s1)) (h2 : b s1 = some (.inr x)) : iter b s = some x :=
  iter_of (n := 2) (by simp [iterN, h1, h2])

theorem wTimes_ok (x y : Int) (hx : lim x.natAbs < 1000000000) (hy : lim y.natAbs < 1000000000) : whole_Int_Times (wh x) [wh y] = some (wh (x * y)) := by
  unfold whole_Int_Times
  have hm := Mul_ok _ _ hx hy
  have hw := wOf_ok (!(decide (x < 0) == decide (y < 0))) (x.natAbs * y.natAbs)
  rw [sg_mul] at hw
  rw [bnd_eq (iter_one (s1 := (1, (wh (x * y)).1, (wh (x * y)).2)) (x := ((wh (x * y)).1, (wh (x * y)).2)) ?_ ?_)]
  · dsimp only [len1]
    rw [if_pos (by simp), get1, bnd_s]
    simp only [wh] at *
    rw [bnd_eq hm, bnd_eq hw]
    rfl
  · dsimp only [len1]
    rw [if_neg (by simp)]

theorem wplus_ok (x y : Int) (hx : lim x.natAbs < 1000000000) (hy : lim y.natAbs < 1000000000) : whole_Int_plus (wh x) (wh y) = some (wh (x + y)) := by
  unfold whole_Int_plus
  by_cases hs : x < 0 ↔ y < 0
  · have hw := wOf_ok (decide (x < 0)) (x.natAbs + y.natAbs)
    have e : sg (decide (x < 0)) (x.natAbs + y.natAbs) = x + y := by
      unfold sg
      by_cases h : x < 0
      · rw [if_pos (by simpa using h)]; omega
      · rw [if_neg (by simpa using h)]; omega
    rw [e] at hw
    rw [if_pos (by simp [wh, hs]), wh1, wh1, bnd_eq (Add_ok _ _ hx hy)]
    show bnd (whole_Of (decide (x < 0)) _) _ = _
    rw [bnd_eq hw]
  · rw [if_neg (by simp [wh, hs]), wh1, wh1, bnd_eq (Sub_ok _ _ hx hy)]
    by_cases hle : y.natAbs ≤ x.natAbs
    · have hw := wOf_ok (decide (x < 0)) (x.natAbs - y.natAbs)
      have e : sg (decide (x < 0)) (x.natAbs - y.natAbs) = x + y := by
        unfold sg
        by_cases h : x < 0
        · rw [if_pos (by simpa using h)]; omega
        · rw [if_neg (by simpa using h)]; omega
      rw [e] at hw
      rw [if_pos hle, if_pos rfl]
      show bnd (whole_Of (decide (x < 0)) _) _ = _
      rw [bnd_eq hw]
    · have hw := wOf_ok (decide (y < 0)) (y.natAbs - x.natAbs)
      have e : sg (decide (y < 0)) (y.natAbs - x.natAbs) = x + y := by
        unfold sg
        by_cases h : y < 0
        · rw [if_pos (by simpa using h)]; omega
        · rw [if_neg (by simpa using h)]; omega
      rw [e] at hw
      rw [if_neg hle, if_neg (by simp), bnd_eq (Sub_ok _ _ hy hx), if_pos (by omega)]
      show bnd (whole_Of (decide (y < 0)) _) _ = _
      rw [bnd_eq hw]

theorem wPlus_ok (x y : Int) (hx : lim x.natAbs < 1000000000) (hy : lim y.natAbs < 1000000000) : whole_Int_Plus (wh x) [wh y] = some (wh (x + y)) := by
  unfold whole_Int_Plus
  have hw := wplus_ok x y hx hy
  rw [bnd_eq (iter_one (s1 := (1, (wh (x + y)).1, (wh (x + y)).2)) (x := ((wh (x + y)).1, (wh (x + y)).2)) ?_ ?_)]
  · dsimp only [len1]
    rw [if_pos (by simp), get1, bnd_s, bnd_eq hw]
    rfl
  · dsimp only [len1]
    rw [if_neg (by simp)]

def cmpZ (x y : Int) : Int := if x < y then -1 else if x = y then 0 else 1

theorem wCmp_ok (x y : Int) (hx : lim x.natAbs < 1000000000) (hy : lim y.natAbs < 1000000000) : whole_Int_Cmp (wh x) (wh y) = some (cmpZ x y) := by
  unfold whole_Int_Cmp
  have c1 := Cmp_ok x.natAbs y.natAbs (by omega) (by omega)
  have c2 := Cmp_ok y.natAbs x.natAbs (by omega) (by omega)
  simp only [lt_s]
  unfold wh
  dsimp only
  by_cases h1 : x < 0 <;> by_cases h2 : y < 0
  · rw [if_neg (by simp [h1, h2]), if_neg (by simp [h1, h2]), if_pos (by simpa using h1), bnd_eq c2]
    congr 1
    unfold cmpI cmpZ
    split <;> split <;> (try split) <;> (try split) <;> omega
  · rw [if_pos (by simp [h1, h2])]
    congr 1
    unfold cmpZ
    rw [if_pos (by omega)]
  · rw [if_neg (by simp [h1, h2]), if_pos (by simp [h1, h2])]
    congr 1
    unfold cmpZ
    rw [if_neg (by omega), if_neg (by omega)]
  · rw [if_neg (by simp [h1, h2]), if_neg (by simp [h1, h2]), if_neg (by simpa using h1), bnd_eq c1]
    congr 1
    unfold cmpI cmpZ
    split <;> split <;> (try split) <;> (try split) <;> omega

theorem wMinus_ok (x : Int) : whole_Int_Minus (wh x) = some (wh (-x)) := by
  unfold whole_Int_Minus
  have hw := wOf_ok (!(decide (x < 0))) x.natAbs
  have e : sg (!(decide (x < 0))) x.natAbs = -x := by
    unfold sg
    by_cases h : x < 0
    · rw [if_neg (by simp [h])]; omega
    · rw [if_pos (by simp [h])]; omega
  rw [e] at hw
  show bnd (whole_Of (!(decide (x < 0))) _) _ = _
  rw [show (wh x).1 = nt x.natAbs from rfl, bnd_eq hw]

theorem wSign_ok (x : Int) : whole_Int_Sign (wh x) = some (if x = 0 then 0 else if x < 0 then -1 else 1) := by
  unfold whole_Int_Sign
  rw [show (wh x).1 = nt x.natAbs from rfl, bnd_eq (Zero_ok _)]
  by_cases h : x = 0
  · rw [if_pos (by simp [h]), if_pos h]
  · rw [if_neg (by simp [h]), if_neg h]
    by_cases h1 : x < 0
    · rw [if_pos (by simpa [wh] using h1), if_pos h1]
    · rw [if_neg (by simpa [wh] using h1), if_neg h1]
end Go.Sh
