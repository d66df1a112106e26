import Derived.Test.YtfklgafihefpeaaEvP
set_option linter.unusedVariables false
set_option linter.unusedSimpArgs false
set_option linter.unusedVariables false
set_option maxHeartbeats 1000000
namespace Go.Sh
open Go.Ev
noncomputable def law13_awake : Option Bool := some true

abbrev T_api_Num := Bool × Str × Str
abbrev T_nat_Nat := List Int
abbrev T_whole_Int := T_nat_Nat × Bool
abbrev T_ratio_Rat := T_whole_Int × T_nat_Nat

-- s1 : i
noncomputable def ref01_Right (a0 : Str) : Option Bool :=
  bnd (iter (σ := Int) (ξ := (Unit) ⊕ (Bool)) (fun s1 =>
      lt (α := Bool) (if (decide (s1 < (a0.length : Int))) = true then (decide (s1 ≤ 2000)) else false) fun x2 =>
      if x2 = true then
        bnd (get a0 s1) fun v3 =>
        bnd (α := Bool) (
            if (decide ((Int.ofNat v3.toNat) < 48)) = true then
              some true
            else
            bnd (get a0 s1) fun v4 =>
            some (decide (57 < (Int.ofNat v4.toNat)))) fun x5 =>
        if x5 = true then
          some (.inr (.inr (false)))
        else
          some (.inl (wrap .i64 (s1 + 1)))
      else
        some (.inr (.inl ()))) 0) fun x6 =>
  sm x6 (fun x7 =>
      lt (α := Bool) (if (decide (1 ≤ (a0.length : Int))) = true then (decide ((a0.length : Int) ≤ 2000)) else false) fun x9 =>
      some x9) fun x8 =>
  some x8

-- s1 : s
noncomputable def ref01_Trim (a0 : Str) : Option Str :=
  bnd (iter (σ := Str) (ξ := Str) (fun s1 =>
      bnd (α := Bool) (
          if (decide (1 < (s1.length : Int))) = true then
            bnd (get s1 0) fun v2 =>
            some (decide ((Int.ofNat v2.toNat) = 48))
          else
            some false) fun x3 =>
      if x3 = true then
        bnd (sub s1 1 (s1.length : Int)) fun v4 =>
        some (.inl v4)
      else
        some (.inr s1)) a0) fun x5 =>
  some x5

noncomputable def ref01_Cmp (a0 : Str) (a1 : Str) : Option Int :=
  if (decide ((a0.length : Int) ≠ (a1.length : Int))) = true then
    if (decide ((a0.length : Int) < (a1.length : Int))) = true then
      some (-1)
    else
      some 1
  else
  if (a0 == a1) = true then
    some 0
  else
  if (Op.bytesLess a0 a1) = true then
    some (-1)
  else
    some 1

-- s2 : i, @_
noncomputable def ref01_written (a0 : List Int) : Option Str :=
  bnd (mk 1 0 (wrap .i64 ((a0.length : Int) + 1)) ((0 : Int) : Int)) fun v1 =>
  bnd (iter (σ := Int × List Int) (ξ := List Int) (fun s2 =>
      if (decide (0 ≤ s2.1)) = true then
        bnd (get a0 s2.1) fun v3 =>
        bnd (app 1 s2.2 ([(wrap .u8 (wrap .i64 (48 + v3)))] : List Int)) fun v4 =>
        some (.inl ((wrap .i64 (s2.1 - 1)), v4))
      else
        some (.inr s2.2)) ((wrap .i64 ((a0.length : Int) - 1)), v1)) fun x5 =>
  if (decide ((x5.length : Int) = 0)) = true then
    some ([48] : Str)
  else
  bnd (ref01_Trim (ofCodes x5)) fun v6 =>
  some v6

noncomputable def ref01_digit (a0 : Str) (a1 : Int) : Option Int :=
  if (decide ((a0.length : Int) ≤ a1)) = true then
    some 0
  else
  bnd (get a0 (wrap .i64 ((wrap .i64 ((a0.length : Int) - 1)) - a1))) fun v1 =>
  some (wrap .i64 (wrap .u8 ((Int.ofNat v1.toNat) - 48)))

-- s1 : borrow, i, @_
noncomputable def ref01_Sub (a0 : Str) (a1 : Str) : Option Str :=
  bnd (iter (σ := Int × Int × List Int) (ξ := List Int) (fun s1 =>
      if (decide (s1.2.1 < (a0.length : Int))) = true then
        bnd (ref01_digit a0 s1.2.1) fun v2 =>
        bnd (ref01_digit a1 s1.2.1) fun v3 =>
        lt (α := Int × Int) (if (decide ((wrap .i64 ((wrap .i64 (v2 - v3)) - s1.1)) < 0)) = true then (1, (wrap .i64 ((wrap .i64 ((wrap .i64 (v2 - v3)) - s1.1)) + 10))) else (0, (wrap .i64 ((wrap .i64 (v2 - v3)) - s1.1)))) fun x4 =>
        bnd (app 8 s1.2.2 ([x4.2] : List Int)) fun v5 =>
        some (.inl (x4.1, (wrap .i64 (s1.2.1 + 1)), v5))
      else
        some (.inr s1.2.2)) (0, 0, ([] : List Int))) fun x6 =>
  bnd (ref01_written x6) fun v7 =>
  some v7

-- s5 : rest, n
-- s6 : rest, n
-- s2 : rest, i, @_
noncomputable def ref01_DivMod (a0 : Str) (a1 : Str) : Option (Str × Str) :=
  bnd (mk 1 0 (a0.length : Int) ((0 : Int) : Int)) fun v1 =>
  bnd (iter (σ := Str × Int × List Int) (ξ := Str × List Int) (fun s2 =>
      if (decide (s2.2.1 < (a0.length : Int))) = true then
        bnd (sub a0 s2.2.1 (wrap .i64 (s2.2.1 + 1))) fun v3 =>
        bnd (cat s2.1 v3) fun v4 =>
        bnd (ref01_Trim v4) fun v5 =>
        bnd (iter (σ := Str × Int) (ξ := Str × Int) (fun s6 =>
            bnd (ref01_Cmp s6.1 a1) fun v7 =>
            lt (α := Bool) (if (decide (0 ≤ v7)) = true then (decide (s6.2 < 10)) else false) fun x8 =>
            if x8 = true then
              bnd (ref01_Sub s6.1 a1) fun v9 =>
              some (.inl (v9, (wrap .i64 (s6.2 + 1))))
            else
              some (.inr (s6.1, s6.2))) (v5, 0)) fun x10 =>
        bnd (app 1 s2.2.2 ([(wrap .u8 (wrap .i64 (48 + x10.2)))] : List Int)) fun v11 =>
        some (.inl (x10.1, (wrap .i64 (s2.2.1 + 1)), v11))
      else
        some (.inr (s2.1, s2.2.2))) (([48] : Str), 0, v1)) fun x12 =>
  bnd (ref01_Trim (ofCodes x12.2)) fun v13 =>
  some (v13, x12.1)

-- s1 : a, b, i
noncomputable def ref01_Gcd (a0 : Str) (a1 : Str) : Option Str :=
  bnd (iter (σ := Str × Str × Int) (ξ := Str) (fun s1 =>
      lt (α := Bool) (if (decide (s1.2.2 < 20000)) = true then (!(s1.2.1 == ([48] : Str))) else false) fun x2 =>
      if x2 = true then
        bnd (ref01_DivMod s1.1 s1.2.1) fun v3 =>
        some (.inl (s1.2.1, v3.2, (wrap .i64 (s1.2.2 + 1))))
      else
        some (.inr s1.1)) (a0, a1, 0)) fun x4 =>
  some x4

noncomputable def ref03_Right (a0 : T_api_Num) : Option Bool :=
  bnd (α := Bool) (
      bnd (ref01_Right a0.2.1) fun v1 =>
      if (!v1) = true then
        some true
      else
      bnd (ref01_Right a0.2.2) fun v2 =>
      if (!v2) = true then
        some true
      else
      bnd (ref01_Trim a0.2.1) fun v3 =>
      if (!(v3 == a0.2.1)) = true then
        some true
      else
      bnd (ref01_Trim a0.2.2) fun v4 =>
      if (!(v4 == a0.2.2)) = true then
        some true
      else
        some (a0.2.2 == ([48] : Str))) fun x5 =>
  if x5 = true then
    some false
  else
  bnd (ref01_Gcd a0.2.1 a0.2.2) fun v6 =>
  bnd (α := Bool) (
      if (v6 == ([49] : Str)) = true then
        lt (α := Bool) (if a0.1 = true then (a0.2.1 == ([48] : Str)) else false) fun x7 =>
        some (!x7)
      else
        some false) fun x8 =>
  some x8

noncomputable def whole_Int_Neg (a0 : T_whole_Int) : Option Bool :=
  some a0.2

noncomputable def nat_Nat_Zero (a0 : T_nat_Nat) : Option Bool :=
  some (decide ((a0.length : Int) = 0))

-- s1 : l
noncomputable def nat_trim (a0 : List Int) : Option T_nat_Nat :=
  bnd (iter (σ := List Int) (ξ := List Int) (fun s1 =>
      bnd (α := Bool) (
          if (decide (0 < (s1.length : Int))) = true then
            bnd (get s1 (wrap .i64 ((s1.length : Int) - 1))) fun v2 =>
            some (decide (v2 = 0))
          else
            some false) fun x3 =>
      if x3 = true then
        bnd (sub s1 0 (wrap .i64 ((s1.length : Int) - 1))) fun v4 =>
        some (.inl v4)
      else
        some (.inr s1)) a0) fun x5 =>
  some x5

-- s2 : rest, i, @_
noncomputable def nat_Nat_small (a0 : T_nat_Nat) (a1 : Int) : Option (T_nat_Nat × Int) :=
  bnd (mk 4 (a0.length : Int) (a0.length : Int) ((0 : Int) : Int)) fun v1 =>
  bnd (iter (σ := Int × Int × List Int) (ξ := Int × List Int) (fun s2 =>
      if (decide (0 ≤ s2.2.1)) = true then
        bnd (get a0 s2.2.1) fun v3 =>
        bnd (chk ((wrap .u64 a1) ≠ 0)) fun v4 =>
        bnd (chk ((wrap .u64 a1) ≠ 0)) fun v5 =>
        bnd (put s2.2.2 s2.2.1 (wrap .u32 (wrap .u64 (Int.tdiv (bor .u64 (shl .u64 s2.1 32) (wrap .u64 v3)) (wrap .u64 a1))))) fun v6 =>
        some (.inl ((Int.tmod (bor .u64 (shl .u64 s2.1 32) (wrap .u64 v3)) (wrap .u64 a1)), (wrap .i64 (s2.2.1 - 1)), v6))
      else
        some (.inr (s2.1, s2.2.2))) (0, (wrap .i64 ((a0.length : Int) - 1)), v1)) fun x7 =>
  bnd (nat_trim x7.2) fun v8 =>
  some (v8, (wrap .u32 x7.1))

-- s3 : r, i, @_
-- s4 : r, i, @_
-- s1 : @a.0, @_
-- s11 : i, j, @_
noncomputable def nat_Nat_Text (a0 : T_nat_Nat) : Option Str :=
  if (decide ((a0.length : Int) = 0)) = true then
    some ([48] : Str)
  else
  bnd (iter (σ := List Int × List Int) (ξ := List Int) (fun s1 =>
      bnd (nat_Nat_Zero s1.1) fun v2 =>
      if (!v2) = true then
        bnd (nat_Nat_small s1.1 1000000000) fun v3 =>
        bnd (iter (σ := Int × Int × List Int) (ξ := List Int) (fun s4 =>
            bnd (α := Bool) (
                if (decide (s4.2.1 < 9)) = true then
                  bnd (α := Bool) (
                      if (decide (0 < s4.1)) = true then
                        some true
                      else
                      bnd (nat_Nat_Zero v3.1) fun v5 =>
                      some (!v5)) fun x6 =>
                  some x6
                else
                  some false) fun x7 =>
            if x7 = true then
              bnd (app 1 s4.2.2 ([(wrap .u8 (wrap .u32 (48 + (Int.tmod s4.1 10))))] : List Int)) fun v8 =>
              some (.inl ((wrap .u32 (Int.tdiv s4.1 10)), (wrap .i64 (s4.2.1 + 1)), v8))
            else
              some (.inr s4.2.2)) (v3.2, 0, s1.2)) fun x9 =>
        some (.inl (v3.1, x9))
      else
        some (.inr s1.2)) (a0, ([] : List Int))) fun x10 =>
  bnd (iter (σ := Int × Int × List Int) (ξ := List Int) (fun s11 =>
      if (decide (s11.1 < s11.2.1)) = true then
        bnd (get s11.2.2 s11.2.1) fun v12 =>
        bnd (get s11.2.2 s11.1) fun v13 =>
        bnd (put s11.2.2 s11.1 v12) fun v14 =>
        bnd (put v14 s11.2.1 v13) fun v15 =>
        some (.inl ((wrap .i64 (s11.1 + 1)), (wrap .i64 (s11.2.1 - 1)), v15))
      else
        some (.inr s11.2.2)) (0, (wrap .i64 ((x10.length : Int) - 1)), x10)) fun x16 =>
  some (ofCodes x16)

noncomputable def nat_Of (a0 : Int) : Option T_nat_Nat :=
  bnd (nat_trim ([(wrap .u32 a0), (wrap .u32 (shr .u64 a0 32))] : List Int)) fun v1 =>
  some v1

noncomputable def ratio_Rat_down (a0 : T_ratio_Rat) : Option T_nat_Nat :=
  bnd (nat_Nat_Zero a0.2) fun v1 =>
  if v1 = true then
    bnd (nat_Of 1) fun v2 =>
    some v2
  else
    some a0.2

noncomputable def ratio_Rat_Num (a0 : T_ratio_Rat) : Option T_api_Num :=
  bnd (whole_Int_Neg a0.1) fun v1 =>
  bnd (nat_Nat_Text a0.1.1) fun v2 =>
  bnd (ratio_Rat_down a0) fun v3 =>
  bnd (nat_Nat_Text v3) fun v4 =>
  some (v1, v2, v4)

noncomputable def whole_Of (a0 : Bool) (a1 : T_nat_Nat) : Option T_whole_Int :=
  bnd (α := Bool) (
      if a0 = true then
        bnd (nat_Nat_Zero a1) fun v1 =>
        some (!v1)
      else
        some false) fun x2 =>
  some (a1, x2)

-- s1 : i
noncomputable def nat_Nat_Cmp (a0 : T_nat_Nat) (a1 : T_nat_Nat) : Option Int :=
  if (decide ((a0.length : Int) ≠ (a1.length : Int))) = true then
    if (decide ((a0.length : Int) < (a1.length : Int))) = true then
      some (-1)
    else
      some 1
  else
  bnd (iter (σ := Int) (ξ := (Unit) ⊕ (Int)) (fun s1 =>
      if (decide (0 ≤ s1)) = true then
        bnd (get a0 s1) fun v2 =>
        bnd (get a1 s1) fun v3 =>
        if (decide (v2 ≠ v3)) = true then
          bnd (get a0 s1) fun v4 =>
          bnd (get a1 s1) fun v5 =>
          if (decide (v4 < v5)) = true then
            some (.inr (.inr ((-1))))
          else
            some (.inr (.inr (1)))
        else
          some (.inl (wrap .i64 (s1 - 1)))
      else
        some (.inr (.inl ()))) (wrap .i64 ((a0.length : Int) - 1))) fun x6 =>
  sm x6 (fun x7 =>
      some 0) fun x8 =>
  some x8

noncomputable def bits_Len32 (a0 : Int) : Option Int :=
  lt (α := Int × Int) (if (decide (65536 ≤ a0)) = true then ((shr .u32 a0 16), 16) else (a0, 0)) fun x1 =>
  lt (α := Int × Int) (if (decide (256 ≤ x1.1)) = true then ((shr .u32 x1.1 8), (wrap .i64 (x1.2 + 8))) else (x1.1, x1.2)) fun x2 =>
  bnd (get ([0, 1, 2, 2, 3, 3, 3, 3, 4, 4, 4, 4, 4, 4, 4, 4, 5, 5, 5, 5, 5, 5, 5, 5, 5, 5, 5, 5, 5, 5, 5, 5, 6, 6, 6, 6, 6, 6, 6, 6, 6, 6, 6, 6, 6, 6, 6, 6, 6, 6, 6, 6, 6, 6, 6, 6, 6, 6, 6, 6, 6, 6, 6, 6, 7, 7, 7, 7, 7, 7, 7, 7, 7, 7, 7, 7, 7, 7, 7, 7, 7, 7, 7, 7, 7, 7, 7, 7, 7, 7, 7, 7, 7, 7, 7, 7, 7, 7, 7, 7, 7, 7, 7, 7, 7, 7, 7, 7, 7, 7, 7, 7, 7, 7, 7, 7, 7, 7, 7, 7, 7, 7, 7, 7, 7, 7, 7, 7, 8, 8, 8, 8, 8, 8, 8, 8, 8, 8, 8, 8, 8, 8, 8, 8, 8, 8, 8, 8, 8, 8, 8, 8, 8, 8, 8, 8, 8, 8, 8, 8, 8, 8, 8, 8, 8, 8, 8, 8, 8, 8, 8, 8, 8, 8, 8, 8, 8, 8, 8, 8, 8, 8, 8, 8, 8, 8, 8, 8, 8, 8, 8, 8, 8, 8, 8, 8, 8, 8, 8, 8, 8, 8, 8, 8, 8, 8, 8, 8, 8, 8, 8, 8, 8, 8, 8, 8, 8, 8, 8, 8, 8, 8, 8, 8, 8, 8, 8, 8, 8, 8, 8, 8, 8, 8, 8, 8, 8, 8, 8, 8, 8, 8, 8, 8, 8, 8, 8, 8, 8, 8, 8, 8, 8, 8, 8, 8] : Str) (wrap .u8 x2.1)) fun v3 =>
  some (wrap .i64 (x2.2 + (wrap .i64 (Int.ofNat v3.toNat))))

noncomputable def bits_LeadingZeros32 (a0 : Int) : Option Int :=
  bnd (bits_Len32 a0) fun v1 =>
  some (wrap .i64 (32 - v1))

-- s3 : _, @_
noncomputable def nat_Nat_Shl (a0 : T_nat_Nat) (a1 : Int) : Option T_nat_Nat :=
  lt (α := Bool) (if (decide (a1 ≤ 0)) = true then true else (decide ((a0.length : Int) = 0))) fun x1 =>
  if x1 = true then
    some a0
  else
  bnd (mk 4 (wrap .i64 ((wrap .i64 ((a0.length : Int) + (wrap .i64 (Int.tdiv a1 32)))) + 1)) (wrap .i64 ((wrap .i64 ((a0.length : Int) + (wrap .i64 (Int.tdiv a1 32)))) + 1)) ((0 : Int) : Int)) fun v2 =>
  bnd (iter (σ := Int × List Int) (ξ := List Int) (fun s3 =>
      if (decide (s3.1 < (a0.length : Int))) = true then
        bnd (get a0 s3.1) fun v4 =>
        bnd (chk (0 ≤ (wrap .u64 (Int.tmod a1 32)))) fun v5 =>
        bnd (get s3.2 (wrap .i64 (s3.1 + (wrap .i64 (Int.tdiv a1 32))))) fun v6 =>
        bnd (put s3.2 (wrap .i64 (s3.1 + (wrap .i64 (Int.tdiv a1 32)))) (bor .u32 v6 (wrap .u32 (shl .u64 (wrap .u64 v4) (wrap .u64 (Int.tmod a1 32)))))) fun v7 =>
        bnd (put v7 (wrap .i64 ((wrap .i64 (s3.1 + (wrap .i64 (Int.tdiv a1 32)))) + 1)) (wrap .u32 (shr .u64 (shl .u64 (wrap .u64 v4) (wrap .u64 (Int.tmod a1 32))) 32))) fun v8 =>
        some (.inl ((wrap .i64 (s3.1 + 1)), v8))
      else
        some (.inr s3.2)) (0, v2)) fun x9 =>
  bnd (nat_trim x9) fun v10 =>
  some v10

noncomputable def bits_Sub32 (a0 : Int) (a1 : Int) (a2 : Int) : Option (Int × Int) :=
  some ((wrap .u32 ((wrap .u32 (a0 - a1)) - a2)), (shr .u32 (bor .u32 (band .u32 (bnot .u32 a0) a1) (band .u32 (bnot .u32 (bxor .u32 a0 a1)) (wrap .u32 ((wrap .u32 (a0 - a1)) - a2)))) 31))

-- s1 : carry, borrow, _, @_
noncomputable def nat_under (a0 : List Int) (a0o a0n : Nat) (a1 : List Int) (a2 : Int) : Option (Bool × List Int) :=
  bnd (iter (σ := Int × Int × Int × List Int) (ξ := Int × Int × List Int) (fun s1 =>
      if (decide (s1.2.2.1 < (a1.length : Int))) = true then
        bnd (get a1 s1.2.2.1) fun v2 =>
        bnd (getS s1.2.2.2 a0o a0n s1.2.2.1) fun v3 =>
        bnd (bits_Sub32 v3 (wrap .u32 (wrap .u64 ((wrap .u64 (a2 * (wrap .u64 v2))) + s1.1))) s1.2.1) fun v4 =>
        bnd (putS s1.2.2.2 a0o a0n s1.2.2.1 v4.1) fun v5 =>
        some (.inl ((shr .u64 (wrap .u64 ((wrap .u64 (a2 * (wrap .u64 v2))) + s1.1)) 32), v4.2, (wrap .i64 (s1.2.2.1 + 1)), v5))
      else
        some (.inr (s1.1, s1.2.1, s1.2.2.2))) (0, 0, 0, a0)) fun x6 =>
  bnd (getS x6.2.2 a0o a0n (a1.length : Int)) fun v7 =>
  bnd (bits_Sub32 v7 (wrap .u32 x6.1) x6.2.1) fun v8 =>
  bnd (putS x6.2.2 a0o a0n (a1.length : Int) v8.1) fun v9 =>
  some ((decide (v8.2 = 1)), v9)

noncomputable def bits_Add32 (a0 : Int) (a1 : Int) (a2 : Int) : Option (Int × Int) :=
  some ((wrap .u32 (wrap .u64 ((wrap .u64 ((wrap .u64 a0) + (wrap .u64 a1))) + (wrap .u64 a2)))), (wrap .u32 (shr .u64 (wrap .u64 ((wrap .u64 ((wrap .u64 a0) + (wrap .u64 a1))) + (wrap .u64 a2))) 32)))

-- s1 : carry, _, @_
noncomputable def nat_back (a0 : List Int) (a0o a0n : Nat) (a1 : List Int) : Option (Unit × List Int) :=
  bnd (iter (σ := Int × Int × List Int) (ξ := Int × List Int) (fun s1 =>
      if (decide (s1.2.1 < (a1.length : Int))) = true then
        bnd (get a1 s1.2.1) fun v2 =>
        bnd (getS s1.2.2 a0o a0n s1.2.1) fun v3 =>
        bnd (bits_Add32 v3 v2 s1.1) fun v4 =>
        bnd (putS s1.2.2 a0o a0n s1.2.1 v4.1) fun v5 =>
        some (.inl (v4.2, (wrap .i64 (s1.2.1 + 1)), v5))
      else
        some (.inr (s1.1, s1.2.2))) (0, 0, a0)) fun x6 =>
  bnd (getS x6.2 a0o a0n (a1.length : Int)) fun v7 =>
  bnd (putS x6.2 a0o a0n (a1.length : Int) (wrap .u32 (v7 + x6.1))) fun v8 =>
  some ((), v8)

-- s2 : _, @_
noncomputable def nat_Nat_Shr (a0 : T_nat_Nat) (a1 : Int) : Option T_nat_Nat :=
  if (decide (a1 ≤ 0)) = true then
    some a0
  else
  if (decide ((a0.length : Int) ≤ (wrap .i64 (Int.tdiv a1 32)))) = true then
    some ([] : List Int)
  else
  bnd (mk 4 (wrap .i64 ((a0.length : Int) - (wrap .i64 (Int.tdiv a1 32)))) (wrap .i64 ((a0.length : Int) - (wrap .i64 (Int.tdiv a1 32)))) ((0 : Int) : Int)) fun v1 =>
  bnd (iter (σ := Int × List Int) (ξ := List Int) (fun s2 =>
      if (decide (s2.1 < (v1.length : Int))) = true then
        bnd (get a0 (wrap .i64 (s2.1 + (wrap .i64 (Int.tdiv a1 32))))) fun v3 =>
        bnd (α := Int) (
            if (decide ((wrap .i64 ((wrap .i64 (s2.1 + (wrap .i64 (Int.tdiv a1 32)))) + 1)) < (a0.length : Int))) = true then
              bnd (get a0 (wrap .i64 ((wrap .i64 (s2.1 + (wrap .i64 (Int.tdiv a1 32)))) + 1))) fun v4 =>
              some (bor .u64 (wrap .u64 v3) (shl .u64 (wrap .u64 v4) 32))
            else
              some (wrap .u64 v3)) fun x5 =>
        bnd (chk (0 ≤ (wrap .u64 (Int.tmod a1 32)))) fun v6 =>
        bnd (put s2.2 s2.1 (wrap .u32 (shr .u64 x5 (wrap .u64 (Int.tmod a1 32))))) fun v7 =>
        some (.inl ((wrap .i64 (s2.1 + 1)), v7))
      else
        some (.inr s2.2)) (0, v1)) fun x8 =>
  bnd (nat_trim x8) fun v9 =>
  some v9

-- s13 : guess, rest
-- s14 : guess, rest
-- s9 : j, @_, @_
noncomputable def nat_long (a0 : T_nat_Nat) (a1 : T_nat_Nat) : Option (T_nat_Nat × T_nat_Nat) :=
  bnd (get a1 (wrap .i64 ((a1.length : Int) - 1))) fun v1 =>
  bnd (bits_LeadingZeros32 v1) fun v2 =>
  bnd (nat_Nat_Shl a1 v2) fun v3 =>
  bnd (mk 4 (wrap .i64 ((a0.length : Int) + 1)) (wrap .i64 ((a0.length : Int) + 1)) ((0 : Int) : Int)) fun v4 =>
  bnd (nat_Nat_Shl a0 v2) fun v5 =>
  bnd (mk 4 (wrap .i64 ((wrap .i64 ((a0.length : Int) - (a1.length : Int))) + 1)) (wrap .i64 ((wrap .i64 ((a0.length : Int) - (a1.length : Int))) + 1)) ((0 : Int) : Int)) fun v6 =>
  bnd (get v3 (wrap .i64 ((v3.length : Int) - 1))) fun v7 =>
  bnd (get v3 (wrap .i64 ((v3.length : Int) - 2))) fun v8 =>
  bnd (iter (σ := Int × List Int × List Int) (ξ := List Int × List Int) (fun s9 =>
      if (decide (0 ≤ s9.1)) = true then
        bnd (get s9.2.1 (wrap .i64 (s9.1 + (v3.length : Int)))) fun v10 =>
        bnd (get s9.2.1 (wrap .i64 ((wrap .i64 (s9.1 + (v3.length : Int))) - 1))) fun v11 =>
        bnd (chk ((wrap .u64 v7) ≠ 0)) fun v12 =>
        bnd (chk ((wrap .u64 v7) ≠ 0)) fun v13 =>
        bnd (iter (σ := Int × Int) (ξ := Int) (fun s14 =>
            bnd (α := Bool) (
                if (decide (4294967296 ≤ s14.1)) = true then
                  some true
                else
                bnd (get s9.2.1 (wrap .i64 ((wrap .i64 (s9.1 + (v3.length : Int))) - 2))) fun v15 =>
                some (decide ((bor .u64 (shl .u64 s14.2 32) (wrap .u64 v15)) < (wrap .u64 (s14.1 * (wrap .u64 v8)))))) fun x16 =>
            if x16 = true then
              if (decide (4294967296 ≤ (wrap .u64 (s14.2 + (wrap .u64 v7))))) = true then
                some (.inr (wrap .u64 (s14.1 - 1)))
              else
                some (.inl ((wrap .u64 (s14.1 - 1)), (wrap .u64 (s14.2 + (wrap .u64 v7)))))
            else
              some (.inr s14.1)) ((wrap .u64 (Int.tdiv (bor .u64 (shl .u64 (wrap .u64 v10) 32) (wrap .u64 v11)) (wrap .u64 v7))), (Int.tmod (bor .u64 (shl .u64 (wrap .u64 v10) 32) (wrap .u64 v11)) (wrap .u64 v7)))) fun x17 =>
        bnd (α := Int × List Int) (
            bnd (chk (0 ≤ s9.1 ∧ s9.1 < (wrap .i64 ((wrap .i64 (s9.1 + (v3.length : Int))) + 1)) ∧ (wrap .i64 ((wrap .i64 (s9.1 + (v3.length : Int))) + 1)) ≤ (s9.2.1.length : Int))) fun v18 =>
            bnd (nat_under s9.2.1 s9.1.toNat ((wrap .i64 ((wrap .i64 (s9.1 + (v3.length : Int))) + 1)).toNat - s9.1.toNat) v3 x17) fun v19 =>
            bnd (chk (v19.2.length = s9.2.1.length)) fun v20 =>
            if v19.1 = true then
              bnd (chk (0 ≤ s9.1 ∧ s9.1 < (wrap .i64 ((wrap .i64 (s9.1 + (v3.length : Int))) + 1)) ∧ (wrap .i64 ((wrap .i64 (s9.1 + (v3.length : Int))) + 1)) ≤ (v19.2.length : Int))) fun v21 =>
              bnd (nat_back v19.2 s9.1.toNat ((wrap .i64 ((wrap .i64 (s9.1 + (v3.length : Int))) + 1)).toNat - s9.1.toNat) v3) fun v22 =>
              bnd (chk (v22.2.length = v19.2.length)) fun v23 =>
              some ((wrap .u64 (x17 - 1)), v22.2)
            else
              some (x17, v19.2)) fun x24 =>
        bnd (put s9.2.2 s9.1 (wrap .u32 x24.1)) fun v25 =>
        some (.inl ((wrap .i64 (s9.1 - 1)), x24.2, v25))
      else
        some (.inr (s9.2.1, s9.2.2))) ((wrap .i64 ((a0.length : Int) - (a1.length : Int))), (cpy v4 v5), v6)) fun x26 =>
  bnd (nat_trim x26.2) fun v27 =>
  bnd (nat_trim x26.1) fun v28 =>
  bnd (nat_Nat_Shr v28 v2) fun v29 =>
  some (v27, v29)

noncomputable def nat_Nat_DivMod (a0 : T_nat_Nat) (a1 : T_nat_Nat) : Option (T_nat_Nat × T_nat_Nat × Bool) :=
  if (decide ((a1.length : Int) = 0)) = true then
    some (([] : List Int), ([] : List Int), false)
  else
  bnd (nat_Nat_Cmp a0 a1) fun v1 =>
  if (decide (v1 < 0)) = true then
    some (([] : List Int), a0, true)
  else
  if (decide ((a1.length : Int) = 1)) = true then
    bnd (get a1 0) fun v2 =>
    bnd (nat_Nat_small a0 v2) fun v3 =>
    bnd (nat_Of (wrap .u64 v3.2)) fun v4 =>
    some (v3.1, v4, true)
  else
  bnd (nat_long a0 a1) fun v5 =>
  some (v5.1, v5.2, true)

noncomputable def nat_Nat_Uint (a0 : T_nat_Nat) : Option (Int × Bool) :=
  if (decide ((a0.length : Int) = 0)) = true then
    some (0, true)
  else
  if (decide ((a0.length : Int) = 1)) = true then
    bnd (get a0 0) fun v1 =>
    some ((wrap .u64 v1), true)
  else
  if (decide ((a0.length : Int) = 2)) = true then
    bnd (get a0 0) fun v2 =>
    bnd (get a0 1) fun v3 =>
    some ((bor .u64 (wrap .u64 v2) (shl .u64 (wrap .u64 v3) 32)), true)
  else
    some (0, false)

-- s5 : x, y
-- s6 : x, y
-- s1 : @a.0, @b.0
noncomputable def nat_Nat_Gcd (a0 : T_nat_Nat) (a1 : T_nat_Nat) : Option T_nat_Nat :=
  bnd (iter (σ := List Int × List Int) (ξ := (List Int) ⊕ (T_nat_Nat)) (fun s1 =>
      bnd (nat_Nat_Zero s1.2) fun v2 =>
      if (!v2) = true then
        bnd (nat_Nat_Uint s1.1) fun v3 =>
        bnd (nat_Nat_Uint s1.2) fun v4 =>
        lt (α := Bool) (if v3.2 = true then v4.2 else false) fun x5 =>
        if x5 = true then
          bnd (iter (σ := Int × Int) (ξ := Int) (fun s6 =>
              if (decide (s6.2 ≠ 0)) = true then
                bnd (chk (s6.2 ≠ 0)) fun v7 =>
                some (.inl (s6.2, (Int.tmod s6.1 s6.2)))
              else
                some (.inr s6.1)) (v3.1, v4.1)) fun x8 =>
          bnd (nat_Of x8) fun v9 =>
          some (.inr (.inr (v9)))
        else
        bnd (nat_Nat_DivMod s1.1 s1.2) fun v10 =>
        some (.inl (s1.2, v10.2.1))
      else
        some (.inr (.inl s1.1))) (a0, a1)) fun x11 =>
  sm x11 (fun x12 =>
      some x12) fun x13 =>
  some x13

noncomputable def whole_Int_Size (a0 : T_whole_Int) : Option T_nat_Nat :=
  some a0.1

noncomputable def ratio_New (a0 : T_whole_Int) (a1 : T_whole_Int) : Option (T_ratio_Rat × Bool) :=
  bnd (nat_Nat_Zero a1.1) fun v1 =>
  if v1 = true then
    some (((([] : List Int), false), ([] : List Int)), false)
  else
  bnd (whole_Int_Size a1) fun v2 =>
  bnd (nat_Nat_Gcd a0.1 v2) fun v3 =>
  bnd (nat_Nat_DivMod a0.1 v3) fun v4 =>
  bnd (nat_Nat_DivMod a1.1 v3) fun v5 =>
  bnd (whole_Int_Neg a0) fun v6 =>
  bnd (whole_Int_Neg a1) fun v7 =>
  bnd (whole_Of (!(v6 == v7)) v4.1) fun v8 =>
  some ((v8, v5.1), true)

-- s3 : carry, _, @_
-- s4 : carry, _, @_
-- s2 : _, @_
noncomputable def nat_Nat_Mul (a0 : T_nat_Nat) (a1 : T_nat_Nat) : Option T_nat_Nat :=
  bnd (mk 4 (wrap .i64 ((a0.length : Int) + (a1.length : Int))) (wrap .i64 ((a0.length : Int) + (a1.length : Int))) ((0 : Int) : Int)) fun v1 =>
  bnd (iter (σ := Int × List Int) (ξ := List Int) (fun s2 =>
      if (decide (s2.1 < (a0.length : Int))) = true then
        bnd (get a0 s2.1) fun v3 =>
        bnd (iter (σ := Int × Int × List Int) (ξ := Int × List Int) (fun s4 =>
            if (decide (s4.2.1 < (a1.length : Int))) = true then
              bnd (get a1 s4.2.1) fun v5 =>
              bnd (get s4.2.2 (wrap .i64 (s2.1 + s4.2.1))) fun v6 =>
              bnd (put s4.2.2 (wrap .i64 (s2.1 + s4.2.1)) (wrap .u32 (wrap .u64 ((wrap .u64 ((wrap .u64 ((wrap .u64 v3) * (wrap .u64 v5))) + (wrap .u64 v6))) + s4.1)))) fun v7 =>
              some (.inl ((shr .u64 (wrap .u64 ((wrap .u64 ((wrap .u64 ((wrap .u64 v3) * (wrap .u64 v5))) + (wrap .u64 v6))) + s4.1)) 32), (wrap .i64 (s4.2.1 + 1)), v7))
            else
              some (.inr (s4.1, s4.2.2))) (0, 0, s2.2)) fun x8 =>
        bnd (put x8.2 (wrap .i64 (s2.1 + (a1.length : Int))) (wrap .u32 x8.1)) fun v9 =>
        some (.inl ((wrap .i64 (s2.1 + 1)), v9))
      else
        some (.inr s2.2)) (0, v1)) fun x10 =>
  bnd (nat_trim x10) fun v11 =>
  some v11

-- s3 : carry, _, @_
noncomputable def nat_Nat_Add (a0 : T_nat_Nat) (a1 : T_nat_Nat) : Option T_nat_Nat :=
  lt (α := List Int × List Int) (if (decide ((a0.length : Int) < (a1.length : Int))) = true then (a1, a0) else (a0, a1)) fun x1 =>
  bnd (mk 4 (wrap .i64 ((x1.1.length : Int) + 1)) (wrap .i64 ((x1.1.length : Int) + 1)) ((0 : Int) : Int)) fun v2 =>
  bnd (iter (σ := Int × Int × List Int) (ξ := Int × List Int) (fun s3 =>
      if (decide (s3.2.1 < (x1.1.length : Int))) = true then
        bnd (α := Int) (
            if (decide (s3.2.1 < (x1.2.length : Int))) = true then
              bnd (get x1.2 s3.2.1) fun v4 =>
              some v4
            else
              some 0) fun x5 =>
        bnd (get x1.1 s3.2.1) fun v6 =>
        bnd (bits_Add32 v6 x5 s3.1) fun v7 =>
        bnd (put s3.2.2 s3.2.1 v7.1) fun v8 =>
        some (.inl (v7.2, (wrap .i64 (s3.2.1 + 1)), v8))
      else
        some (.inr (s3.1, s3.2.2))) (0, 0, v2)) fun x9 =>
  bnd (put x9.2 (x1.1.length : Int) x9.1) fun v10 =>
  bnd (nat_trim v10) fun v11 =>
  some v11

-- s3 : x, scale, _
-- s4 : x, scale, _
-- s2 : s, @out.0
noncomputable def nat_Parse (a0 : Str) : Option (T_nat_Nat × Bool) :=
  lt (α := Bool) (if (a0 == ([] : Str)) = true then true else (decide (2000 < (a0.length : Int)))) fun x1 =>
  if x1 = true then
    some (([] : List Int), false)
  else
  bnd (iter (σ := Str × List Int) (ξ := (List Int) ⊕ (T_nat_Nat × Bool)) (fun s2 =>
      if (decide (0 < (s2.1.length : Int))) = true then
        bnd (sub s2.1 0 (mnI 9 (s2.1.length : Int))) fun v3 =>
        bnd (iter (σ := Int × Int × Int) (ξ := (Int × Int) ⊕ (T_nat_Nat × Bool)) (fun s4 =>
            if (decide (s4.2.2 < ((codes v3).length : Int))) = true then
              bnd (get (codes v3) s4.2.2) fun v5 =>
              lt (α := Bool) (if (decide (v5 < 48)) = true then true else (decide (57 < v5))) fun x6 =>
              if x6 = true then
                some (.inr (.inr ((([] : List Int), false))))
              else
                some (.inl ((wrap .u64 ((wrap .u64 (10 * s4.1)) + (wrap .u64 (wrap .u8 (v5 - 48))))), (wrap .u64 (10 * s4.2.1)), (wrap .i64 (s4.2.2 + 1))))
            else
              some (.inr (.inl (s4.1, s4.2.1)))) (0, 1, 0)) fun x7 =>
        sm x7 (fun x8 =>
            bnd (nat_Of x8.2) fun v10 =>
            bnd (nat_Nat_Mul s2.2 v10) fun v11 =>
            bnd (nat_Of x8.1) fun v12 =>
            bnd (nat_Nat_Add v11 v12) fun v13 =>
            bnd (sub s2.1 (mnI 9 (s2.1.length : Int)) (s2.1.length : Int)) fun v14 =>
            some (.inl (v14, v13))) fun x9 =>
        some (.inr (.inr (x9)))
      else
        some (.inr (.inl s2.2))) (a0, ([] : List Int))) fun x15 =>
  sm x15 (fun x16 =>
      some (x16, true)) fun x17 =>
  some x17

noncomputable def ratio_Of (a0 : T_api_Num) : Option (T_ratio_Rat × Bool) :=
  bnd (nat_Parse a0.2.1) fun v1 =>
  bnd (nat_Parse a0.2.2) fun v2 =>
  lt (α := Bool) (if (!v1.2) = true then true else (!v2.2)) fun x3 =>
  if x3 = true then
    some (((([] : List Int), false), ([] : List Int)), false)
  else
  bnd (whole_Of a0.1 v1.1) fun v4 =>
  bnd (whole_Of false v2.1) fun v5 =>
  bnd (ratio_New v4 v5) fun v6 =>
  bnd (α := Bool) (
      if v6.2 = true then
        bnd (ratio_Rat_Num v6.1) fun v7 =>
        some ((v7.1 == a0.1) && (((bs v7.2.1).toList == (bs a0.2.1).toList) && (((bs v7.2.2).toList == (bs a0.2.2).toList) && true)))
      else
        some false) fun x8 =>
  some (v6.1, x8)

noncomputable def law13_read (a0 : T_api_Num) : Option (T_ratio_Rat × Bool) :=
  lt (α := Bool) (if (decide (40 < (a0.2.1.length : Int))) = true then true else (decide (40 < (a0.2.2.length : Int)))) fun x1 =>
  bnd (α := Bool) (
      if x1 = true then
        some true
      else
      bnd (ref03_Right a0) fun v2 =>
      some (!v2)) fun x3 =>
  if x3 = true then
    some (((([] : List Int), false), ([] : List Int)), false)
  else
  bnd (ratio_Of a0) fun v4 =>
  some (v4.1, v4.2)

noncomputable def dyad_Compare (a0 : Int) (a1 : Int) : Option Bool :=
  if (decide (a0 = 60)) = true then
    some (decide (a1 < 0))
  else
  if (decide (a0 = 8804)) = true then
    some (decide (a1 ≤ 0))
  else
  if (decide (a0 = 61)) = true then
    some (decide (a1 = 0))
  else
  if (decide (a0 = 8805)) = true then
    some (decide (0 ≤ a1))
  else
  if (decide (a0 = 62)) = true then
    some (decide (0 < a1))
  else
    some (decide (a1 ≠ 0))

-- s1 : _, @a.0, @a.1
noncomputable def whole_Int_Times (a0 : T_whole_Int) (a1 : List T_whole_Int) : Option T_whole_Int :=
  bnd (iter (σ := Int × List Int × Bool) (ξ := List Int × Bool) (fun s1 =>
      if (decide (s1.1 < (a1.length : Int))) = true then
        bnd (get a1 s1.1) fun v2 =>
        bnd (nat_Nat_Mul s1.2.1 v2.1) fun v3 =>
        bnd (whole_Of (!(s1.2.2 == v2.2)) v3) fun v4 =>
        some (.inl ((wrap .i64 (s1.1 + 1)), v4.1, v4.2))
      else
        some (.inr (s1.2.1, s1.2.2))) (0, a0.1, a0.2)) fun x5 =>
  some x5

noncomputable def ratio_Rat_under (a0 : T_ratio_Rat) : Option T_whole_Int :=
  bnd (ratio_Rat_down a0) fun v1 =>
  bnd (whole_Of false v1) fun v2 =>
  some v2

noncomputable def whole_Int_Cmp (a0 : T_whole_Int) (a1 : T_whole_Int) : Option Int :=
  lt (α := Bool) (if a0.2 = true then (!a1.2) else false) fun x1 =>
  if x1 = true then
    some (-1)
  else
  lt (α := Bool) (if (!a0.2) = true then a1.2 else false) fun x2 =>
  if x2 = true then
    some 1
  else
  if a0.2 = true then
    bnd (nat_Nat_Cmp a1.1 a0.1) fun v3 =>
    some v3
  else
  bnd (nat_Nat_Cmp a0.1 a1.1) fun v4 =>
  some v4

noncomputable def ratio_Rat_Cmp (a0 : T_ratio_Rat) (a1 : T_ratio_Rat) : Option Int :=
  bnd (ratio_Rat_under a1) fun v1 =>
  bnd (whole_Int_Times a0.1 ([v1] : List T_whole_Int)) fun v2 =>
  bnd (ratio_Rat_under a0) fun v3 =>
  bnd (whole_Int_Times a1.1 ([v3] : List T_whole_Int)) fun v4 =>
  bnd (whole_Int_Cmp v2 v4) fun v5 =>
  some v5

noncomputable def dyad_compares (a0 : Int) : Option Bool :=
  lt (α := Bool) (if (decide (a0 = 60)) = true then true else (if (decide (a0 = 8804)) = true then true else (if (decide (a0 = 61)) = true then true else (if (decide (a0 = 8805)) = true then true else (if (decide (a0 = 62)) = true then true else (decide (a0 = 8800))))))) fun x1 =>
  if x1 = true then
    some true
  else
    some false

noncomputable def whole_From (a0 : Int) : Option T_whole_Int :=
  if (decide (a0 < 0)) = true then
    bnd (nat_Of (wrap .u64 ((wrap .u64 (wrap .i64 (0 - (wrap .i64 (a0 + 1))))) + 1))) fun v1 =>
    some (v1, true)
  else
  bnd (nat_Of (wrap .u64 a0)) fun v2 =>
  some (v2, false)

noncomputable def ratio_From (a0 : Int) : Option T_ratio_Rat :=
  bnd (whole_From a0) fun v1 =>
  bnd (nat_Of 1) fun v2 =>
  some (v1, v2)

noncomputable def dyad_truth (a0 : Bool) : Option T_ratio_Rat :=
  if a0 = true then
    bnd (ratio_From 1) fun v1 =>
    some v1
  else
    some ((([] : List Int), false), ([] : List Int))

noncomputable def dyad_judges (a0 : Int) : Option Bool :=
  lt (α := Bool) (if (decide (a0 = 8743)) = true then true else (if (decide (a0 = 8744)) = true then true else (if (decide (a0 = 9074)) = true then true else (decide (a0 = 9073))))) fun x1 =>
  if x1 = true then
    some true
  else
    some false

noncomputable def nat_Nat_One (a0 : T_nat_Nat) : Option Bool :=
  bnd (α := Bool) (
      if (decide ((a0.length : Int) = 1)) = true then
        bnd (get a0 0) fun v1 =>
        some (decide (v1 = 1))
      else
        some false) fun x2 =>
  some x2

noncomputable def ratio_Rat_IsWhole (a0 : T_ratio_Rat) : Option Bool :=
  bnd (ratio_Rat_down a0) fun v1 =>
  bnd (nat_Nat_One v1) fun v2 =>
  some v2

noncomputable def whole_Int_Int (a0 : T_whole_Int) : Option (Int × Bool) :=
  bnd (nat_Nat_Uint a0.1) fun v1 =>
  lt (α := Bool) (if (!v1.2) = true then true else (decide (9223372036854775808 < v1.1))) fun x2 =>
  bnd (α := Bool) (
      if x2 = true then
        some true
      else
      lt (α := Bool) (if (decide (v1.1 = 9223372036854775808)) = true then (!a0.2) else false) fun x3 =>
      some x3) fun x4 =>
  if x4 = true then
    some (0, false)
  else
  if a0.2 = true then
    some ((wrap .i64 ((wrap .i64 (0 - (wrap .i64 (wrap .u64 (v1.1 - 1))))) - 1)), true)
  else
    some ((wrap .i64 v1.1), true)

noncomputable def ratio_Rat_Int (a0 : T_ratio_Rat) : Option (Int × Bool) :=
  bnd (ratio_Rat_IsWhole a0) fun v1 =>
  if (!v1) = true then
    some (0, false)
  else
  bnd (whole_Int_Int a0.1) fun v2 =>
  some (v2.1, v2.2)

noncomputable def dyad_judge (a0 : Int) (a1 : T_ratio_Rat) (a2 : T_ratio_Rat) : Option (T_ratio_Rat × Int) :=
  bnd (ratio_Rat_Int a1) fun v1 =>
  bnd (ratio_Rat_Int a2) fun v2 =>
  lt (α := Bool) (if (!v1.2) = true then true else (!v2.2)) fun x3 =>
  lt (α := Bool) (if x3 = true then true else (decide (v1.1 < 0))) fun x4 =>
  lt (α := Bool) (if x4 = true then true else (decide (1 < v1.1))) fun x5 =>
  lt (α := Bool) (if x5 = true then true else (decide (v2.1 < 0))) fun x6 =>
  lt (α := Bool) (if x6 = true then true else (decide (1 < v2.1))) fun x7 =>
  if x7 = true then
    some (((([] : List Int), false), ([] : List Int)), 22)
  else
  if (decide (a0 = 8743)) = true then
    bnd (dyad_truth (decide ((wrap .i64 (v1.1 + v2.1)) = 2))) fun v8 =>
    some (v8, 0)
  else
  if (decide (a0 = 8744)) = true then
    bnd (dyad_truth (decide (0 < (wrap .i64 (v1.1 + v2.1))))) fun v9 =>
    some (v9, 0)
  else
  if (decide (a0 = 9074)) = true then
    bnd (dyad_truth (decide ((wrap .i64 (v1.1 + v2.1)) < 2))) fun v10 =>
    some (v10, 0)
  else
  bnd (dyad_truth (decide ((wrap .i64 (v1.1 + v2.1)) = 0))) fun v11 =>
  some (v11, 0)

noncomputable def dyad_reckons (a0 : Int) : Option Bool :=
  lt (α := Bool) (if (decide (a0 = 43)) = true then true else (if (decide (a0 = 45)) = true then true else (if (decide (a0 = 215)) = true then true else (if (decide (a0 = 247)) = true then true else (if (decide (a0 = 8968)) = true then true else (if (decide (a0 = 8970)) = true then true else (if (decide (a0 = 124)) = true then true else (if (decide (a0 = 42)) = true then true else (if (decide (a0 = 33)) = true then true else (if (decide (a0 = 9055)) = true then true else (decide (a0 = 9675)))))))))))) fun x1 =>
  if x1 = true then
    some true
  else
    some false

-- s3 : borrow, _, @_
noncomputable def nat_Nat_Sub (a0 : T_nat_Nat) (a1 : T_nat_Nat) : Option (T_nat_Nat × Bool) :=
  bnd (nat_Nat_Cmp a0 a1) fun v1 =>
  if (decide (v1 < 0)) = true then
    some (([] : List Int), false)
  else
  bnd (mk 4 (a0.length : Int) (a0.length : Int) ((0 : Int) : Int)) fun v2 =>
  bnd (iter (σ := Int × Int × List Int) (ξ := List Int) (fun s3 =>
      if (decide (s3.2.1 < (a0.length : Int))) = true then
        bnd (α := Int) (
            if (decide (s3.2.1 < (a1.length : Int))) = true then
              bnd (get a1 s3.2.1) fun v4 =>
              some v4
            else
              some 0) fun x5 =>
        bnd (get a0 s3.2.1) fun v6 =>
        bnd (bits_Sub32 v6 x5 s3.1) fun v7 =>
        bnd (put s3.2.2 s3.2.1 v7.1) fun v8 =>
        some (.inl (v7.2, (wrap .i64 (s3.2.1 + 1)), v8))
      else
        some (.inr s3.2.2)) (0, 0, v2)) fun x9 =>
  bnd (nat_trim x9) fun v10 =>
  some (v10, true)

noncomputable def whole_Int_plus (a0 : T_whole_Int) (a1 : T_whole_Int) : Option T_whole_Int :=
  if (a0.2 == a1.2) = true then
    bnd (nat_Nat_Add a0.1 a1.1) fun v1 =>
    bnd (whole_Of a0.2 v1) fun v2 =>
    some v2
  else
  bnd (nat_Nat_Sub a0.1 a1.1) fun v3 =>
  if v3.2 = true then
    bnd (whole_Of a0.2 v3.1) fun v4 =>
    some v4
  else
  bnd (nat_Nat_Sub a1.1 a0.1) fun v5 =>
  bnd (whole_Of a1.2 v5.1) fun v6 =>
  some v6

-- s1 : _, @a.0, @a.1
noncomputable def whole_Int_Plus (a0 : T_whole_Int) (a1 : List T_whole_Int) : Option T_whole_Int :=
  bnd (iter (σ := Int × List Int × Bool) (ξ := List Int × Bool) (fun s1 =>
      if (decide (s1.1 < (a1.length : Int))) = true then
        bnd (get a1 s1.1) fun v2 =>
        bnd (whole_Int_plus s1.2 v2) fun v3 =>
        some (.inl ((wrap .i64 (s1.1 + 1)), v3.1, v3.2))
      else
        some (.inr (s1.2.1, s1.2.2))) (0, a0.1, a0.2)) fun x4 =>
  some x4

-- s1 : _, @a.0, @a.1, @a.2
noncomputable def ratio_Rat_Plus (a0 : T_ratio_Rat) (a1 : List T_ratio_Rat) : Option T_ratio_Rat :=
  bnd (iter (σ := Int × List Int × Bool × List Int) (ξ := List Int × Bool × List Int) (fun s1 =>
      if (decide (s1.1 < (a1.length : Int))) = true then
        bnd (get a1 s1.1) fun v2 =>
        bnd (ratio_Rat_under v2) fun v3 =>
        bnd (whole_Int_Times (s1.2.1, s1.2.2.1) ([v3] : List T_whole_Int)) fun v4 =>
        bnd (ratio_Rat_under ((s1.2.1, s1.2.2.1), s1.2.2.2)) fun v5 =>
        bnd (whole_Int_Times v2.1 ([v5] : List T_whole_Int)) fun v6 =>
        bnd (whole_Int_Plus v4 ([v6] : List T_whole_Int)) fun v7 =>
        bnd (ratio_Rat_under ((s1.2.1, s1.2.2.1), s1.2.2.2)) fun v8 =>
        bnd (ratio_Rat_under v2) fun v9 =>
        bnd (whole_Int_Times v8 ([v9] : List T_whole_Int)) fun v10 =>
        bnd (ratio_New v7 v10) fun v11 =>
        some (.inl ((wrap .i64 (s1.1 + 1)), v11.1.1.1, v11.1.1.2, v11.1.2))
      else
        some (.inr (s1.2.1, s1.2.2.1, s1.2.2.2))) (0, a0.1.1, a0.1.2, a0.2)) fun x12 =>
  some ((x12.1, x12.2.1), x12.2.2)

-- s1 : _, @a.0, @a.1, @a.2
noncomputable def ratio_Rat_Times (a0 : T_ratio_Rat) (a1 : List T_ratio_Rat) : Option T_ratio_Rat :=
  bnd (iter (σ := Int × List Int × Bool × List Int) (ξ := List Int × Bool × List Int) (fun s1 =>
      if (decide (s1.1 < (a1.length : Int))) = true then
        bnd (get a1 s1.1) fun v2 =>
        bnd (whole_Int_Times (s1.2.1, s1.2.2.1) ([v2.1] : List T_whole_Int)) fun v3 =>
        bnd (ratio_Rat_under ((s1.2.1, s1.2.2.1), s1.2.2.2)) fun v4 =>
        bnd (ratio_Rat_under v2) fun v5 =>
        bnd (whole_Int_Times v4 ([v5] : List T_whole_Int)) fun v6 =>
        bnd (ratio_New v3 v6) fun v7 =>
        some (.inl ((wrap .i64 (s1.1 + 1)), v7.1.1.1, v7.1.1.2, v7.1.2))
      else
        some (.inr (s1.2.1, s1.2.2.1, s1.2.2.2))) (0, a0.1.1, a0.1.2, a0.2)) fun x8 =>
  some ((x8.1, x8.2.1), x8.2.2)

noncomputable def whole_Int_Sign (a0 : T_whole_Int) : Option Int :=
  bnd (nat_Nat_Zero a0.1) fun v1 =>
  if v1 = true then
    some 0
  else
  if a0.2 = true then
    some (-1)
  else
    some 1

noncomputable def ratio_Rat_Sign (a0 : T_ratio_Rat) : Option Int :=
  bnd (whole_Int_Sign a0.1) fun v1 =>
  some v1

noncomputable def whole_Int_Minus (a0 : T_whole_Int) : Option T_whole_Int :=
  bnd (whole_Of (!a0.2) a0.1) fun v1 =>
  some v1

noncomputable def ratio_Rat_Minus (a0 : T_ratio_Rat) : Option T_ratio_Rat :=
  bnd (whole_Int_Minus a0.1) fun v1 =>
  bnd (ratio_Rat_down a0) fun v2 =>
  some (v1, v2)

noncomputable def ratio_Rat_By (a0 : T_ratio_Rat) (a1 : T_ratio_Rat) : Option (T_ratio_Rat × Bool) :=
  bnd (ratio_Rat_under a1) fun v1 =>
  bnd (whole_Int_Times a0.1 ([v1] : List T_whole_Int)) fun v2 =>
  bnd (ratio_Rat_under a0) fun v3 =>
  bnd (whole_Int_Times v3 ([a1.1] : List T_whole_Int)) fun v4 =>
  bnd (ratio_New v2 v4) fun v5 =>
  some (v5.1, v5.2)

noncomputable def ratio_Whole (a0 : T_whole_Int) : Option T_ratio_Rat :=
  bnd (nat_Of 1) fun v1 =>
  some (a0, v1)

noncomputable def whole_Int_Floor (a0 : T_whole_Int) (a1 : T_whole_Int) : Option (T_whole_Int × T_whole_Int × Bool) :=
  bnd (nat_Nat_DivMod a0.1 a1.1) fun v1 =>
  if (!v1.2.2) = true then
    some ((([] : List Int), false), (([] : List Int), false), false)
  else
  bnd (α := Bool) (
      if (a0.2 == a1.2) = true then
        some true
      else
      bnd (nat_Nat_Zero v1.2.1) fun v2 =>
      some v2) fun x3 =>
  if x3 = true then
    bnd (whole_Of (!(a0.2 == a1.2)) v1.1) fun v4 =>
    bnd (whole_Of a1.2 v1.2.1) fun v5 =>
    some (v4, v5, true)
  else
  bnd (nat_Nat_Sub a1.1 v1.2.1) fun v6 =>
  bnd (nat_Of 1) fun v7 =>
  bnd (nat_Nat_Add v1.1 v7) fun v8 =>
  bnd (whole_Of true v8) fun v9 =>
  bnd (whole_Of a1.2 v6.1) fun v10 =>
  some (v9, v10, true)

noncomputable def ratio_Rat_Floor (a0 : T_ratio_Rat) : Option T_whole_Int :=
  bnd (ratio_Rat_under a0) fun v1 =>
  bnd (whole_Int_Floor a0.1 v1) fun v2 =>
  some v2.1

noncomputable def ratio_Rat_Rest (a0 : T_ratio_Rat) (a1 : T_ratio_Rat) : Option T_ratio_Rat :=
  bnd (ratio_Rat_By a1 a0) fun v1 =>
  if (!v1.2) = true then
    some a1
  else
  bnd (ratio_Rat_Floor v1.1) fun v2 =>
  bnd (ratio_Whole v2) fun v3 =>
  bnd (ratio_Rat_Times a0 ([v3] : List T_ratio_Rat)) fun v4 =>
  bnd (ratio_Rat_Minus v4) fun v5 =>
  bnd (ratio_Rat_Plus a1 ([v5] : List T_ratio_Rat)) fun v6 =>
  some v6

noncomputable def ratio_Rat_Limited (a0 : T_ratio_Rat) : Option Bool :=
  bnd (ratio_Rat_IsWhole a0) fun v1 =>
  bnd (α := Bool) (
      if v1 = true then
        bnd (nat_Nat_Zero a0.1.1) fun v2 =>
        bnd (α := Bool) (
            if v2 = true then
              some true
            else
            bnd (nat_Nat_One a0.1.1) fun v3 =>
            some v3) fun x4 =>
        some x4
      else
        some false) fun x5 =>
  some x5

noncomputable def ratio_Rat_Top (a0 : T_ratio_Rat) : Option T_whole_Int :=
  some a0.1

noncomputable def nat_Nat_Even (a0 : T_nat_Nat) : Option Bool :=
  bnd (α := Bool) (
      if (decide ((a0.length : Int) = 0)) = true then
        some true
      else
      bnd (get a0 0) fun v1 =>
      some (decide ((band .u32 v1 1) = 0))) fun x2 =>
  some x2

noncomputable def nat_Nat_Limbs (a0 : T_nat_Nat) : Option Int :=
  some (a0.length : Int)

-- s5 : _, @out.0
noncomputable def nat_Nat_Pow (a0 : T_nat_Nat) (a1 : Int) (a2 : Int) : Option (T_nat_Nat × Bool) :=
  bnd (nat_Of 1) fun v1 =>
  bnd (α := Bool) (
      if (decide (a1 ≤ 0)) = true then
        some true
      else
      bnd (nat_Nat_One a0) fun v2 =>
      some v2) fun x3 =>
  if x3 = true then
    some (v1, true)
  else
  bnd (nat_Nat_Zero a0) fun v4 =>
  if v4 = true then
    some (a0, true)
  else
  bnd (iter (σ := Int × List Int) (ξ := (List Int) ⊕ (T_nat_Nat × Bool)) (fun s5 =>
      if (decide (s5.1 < a1)) = true then
        bnd (nat_Nat_Mul s5.2 a0) fun v6 =>
        bnd (nat_Nat_Limbs v6) fun v7 =>
        if (decide (a2 < v7)) = true then
          some (.inr (.inr ((([] : List Int), false))))
        else
          some (.inl ((wrap .i64 (s5.1 + 1)), v6))
      else
        some (.inr (.inl s5.2))) (0, v1)) fun x8 =>
  sm x8 (fun x9 =>
      some (x9, true)) fun x10 =>
  some x10

noncomputable def ratio_Rat_Pow (a0 : T_ratio_Rat) (a1 : Int) (a2 : Int) : Option (T_ratio_Rat × Bool) :=
  bnd (α := (Int × List Int × Bool × List Int) ⊕ (T_ratio_Rat × Bool)) (
      if (decide (a1 = 0)) = true then
        bnd (ratio_From 1) fun v1 =>
        some (.inr ((v1, true)))
      else
      bnd (ratio_Rat_Limited a0) fun v2 =>
      if v2 = true then
        bnd (ratio_Rat_Sign a0) fun v3 =>
        lt (α := Bool) (if (decide (v3 = 0)) = true then (decide (a1 < 0)) else false) fun x4 =>
        if x4 = true then
          some (.inr ((((([] : List Int), false), ([] : List Int)), false)))
        else
        if (decide ((band .i64 a1 1) = 0)) = true then
          bnd (ratio_Rat_Times a0 ([a0] : List T_ratio_Rat)) fun v5 =>
          some (.inr ((v5, true)))
        else
          some (.inr ((a0, true)))
      else
      if (decide (a1 < 0)) = true then
        bnd (ratio_From 1) fun v6 =>
        bnd (ratio_Rat_By v6 a0) fun v7 =>
        some (.inl ((wrap .i64 (0 - (mxI a1 (-9223372036854775807)))), v7.1.1.1, v7.1.1.2, v7.1.2))
      else
        some (.inl (a1, a0.1.1, a0.1.2, a0.2))) fun x8 =>
  sm x8 (fun x9 =>
      bnd (nat_Nat_Pow x9.2.1 x9.1 a2) fun v11 =>
      bnd (ratio_Rat_down ((x9.2.1, x9.2.2.1), x9.2.2.2)) fun v12 =>
      bnd (nat_Nat_Pow v12 x9.1 a2) fun v13 =>
      lt (α := Bool) (if (!v11.2) = true then true else (!v13.2)) fun x14 =>
      if x14 = true then
        some (((([] : List Int), false), ([] : List Int)), false)
      else
      bnd (α := List Int × Bool) (
          bnd (whole_Int_Neg (x9.2.1, x9.2.2.1)) fun v15 =>
          if v15 = true then
            bnd (whole_Of (decide ((band .i64 x9.1 1) = 1)) v11.1) fun v16 =>
            some (v16.1, v16.2)
          else
          bnd (whole_Of false v11.1) fun v17 =>
          some (v17.1, v17.2)) fun x18 =>
      some ((x18, v13.1), true)) fun x10 =>
  some x10

noncomputable def dyad_power (a0 : T_ratio_Rat) (a1 : T_ratio_Rat) (a2 : Int) : Option (T_ratio_Rat × Int) :=
  bnd (ratio_Rat_IsWhole a1) fun v1 =>
  bnd (α := Bool) (
      if (!v1) = true then
        some true
      else
      bnd (ratio_Rat_Sign a0) fun v2 =>
      bnd (α := Bool) (
          if (decide (v2 = 0)) = true then
            bnd (ratio_Rat_Sign a1) fun v3 =>
            some (decide (v3 < 0))
          else
            some false) fun x4 =>
      some x4) fun x5 =>
  if x5 = true then
    some (((([] : List Int), false), ([] : List Int)), 22)
  else
  bnd (ratio_Rat_Limited a0) fun v6 =>
  bnd (α := Bool) (
      if v6 = true then
        bnd (ratio_Rat_Sign a1) fun v7 =>
        some (decide (v7 ≠ 0))
      else
        some false) fun x8 =>
  if x8 = true then
    bnd (ratio_Rat_Sign a0) fun v9 =>
    bnd (α := Bool) (
        if (decide (v9 < 0)) = true then
          bnd (ratio_Rat_Top a1) fun v10 =>
          bnd (nat_Nat_Even v10.1) fun v11 =>
          some v11
        else
          some false) fun x12 =>
    if x12 = true then
      bnd (ratio_Rat_Minus a0) fun v13 =>
      some (v13, 0)
    else
      some (a0, 0)
  else
  bnd (ratio_Rat_Int a1) fun v14 =>
  if (!v14.2) = true then
    some (((([] : List Int), false), ([] : List Int)), 26)
  else
  bnd (ratio_Rat_Pow a0 v14.1 a2) fun v15 =>
  if (!v15.2) = true then
    some (v15.1, 26)
  else
    some (v15.1, 0)

-- s15 : i, @out.0, @out.1
noncomputable def dyad_choose (a0 : T_ratio_Rat) (a1 : T_ratio_Rat) (a2 : Int) : Option (T_ratio_Rat × Int) :=
  bnd (ratio_Rat_IsWhole a0) fun v1 =>
  bnd (α := Bool) (
      if (!v1) = true then
        some true
      else
      bnd (ratio_Rat_IsWhole a1) fun v2 =>
      some (!v2)) fun x3 =>
  bnd (α := Bool) (
      if x3 = true then
        some true
      else
      bnd (ratio_Rat_Sign a0) fun v4 =>
      some (decide (v4 < 0))) fun x5 =>
  bnd (α := Bool) (
      if x5 = true then
        some true
      else
      bnd (ratio_Rat_Sign a1) fun v6 =>
      some (decide (v6 < 0))) fun x7 =>
  if x7 = true then
    some (((([] : List Int), false), ([] : List Int)), 22)
  else
  bnd (ratio_Rat_Minus a0) fun v8 =>
  bnd (ratio_Rat_Plus a1 ([v8] : List T_ratio_Rat)) fun v9 =>
  bnd (ratio_Rat_Sign v9) fun v10 =>
  if (decide (v10 < 0)) = true then
    some (((([] : List Int), false), ([] : List Int)), 0)
  else
  bnd (α := List Int × Bool × List Int × List Int × Bool × List Int) (
      bnd (ratio_Rat_Cmp v9 a0) fun v11 =>
      if (decide (v11 < 0)) = true then
        some (v9.1.1, v9.1.2, v9.2, a0.1.1, a0.1.2, a0.2)
      else
        some (a0.1.1, a0.1.2, a0.2, v9.1.1, v9.1.2, v9.2)) fun x12 =>
  bnd (ratio_Rat_Int ((x12.1, x12.2.1), x12.2.2.1)) fun v13 =>
  bnd (whole_From 1) fun v14 =>
  bnd (iter (σ := Int × List Int × Bool) (ξ := (List Int × Bool) ⊕ (T_ratio_Rat × Int)) (fun s15 =>
      lt (α := Bool) (if (!v13.2) = true then true else (decide (s15.1 ≤ v13.1))) fun x16 =>
      if x16 = true then
        bnd (ratio_Rat_Top ((x12.2.2.2.1, x12.2.2.2.2.1), x12.2.2.2.2.2)) fun v17 =>
        bnd (whole_From s15.1) fun v18 =>
        bnd (whole_Int_Plus v17 ([v18] : List T_whole_Int)) fun v19 =>
        bnd (whole_Int_Times s15.2 ([v19] : List T_whole_Int)) fun v20 =>
        bnd (whole_From s15.1) fun v21 =>
        bnd (whole_Int_Floor v20 v21) fun v22 =>
        bnd (nat_Nat_Limbs v22.1.1) fun v23 =>
        if (decide (a2 < v23)) = true then
          some (.inr (.inr ((((([] : List Int), false), ([] : List Int)), 26))))
        else
          some (.inl ((wrap .i64 (s15.1 + 1)), v22.1.1, v22.1.2))
      else
        some (.inr (.inl (s15.2.1, s15.2.2)))) (1, v14.1, v14.2)) fun x24 =>
  sm x24 (fun x25 =>
      bnd (ratio_Whole x25) fun v27 =>
      some (v27, 0)) fun x26 =>
  some x26

noncomputable def dyad_reckon (a0 : Int) (a1 : T_ratio_Rat) (a2 : T_ratio_Rat) (a3 : Int) : Option (T_ratio_Rat × Int) :=
  if (decide (a0 = 43)) = true then
    bnd (ratio_Rat_Plus a1 ([a2] : List T_ratio_Rat)) fun v1 =>
    some (v1, 0)
  else
  if (decide (a0 = 45)) = true then
    bnd (ratio_Rat_Minus a2) fun v2 =>
    bnd (ratio_Rat_Plus a1 ([v2] : List T_ratio_Rat)) fun v3 =>
    some (v3, 0)
  else
  if (decide (a0 = 215)) = true then
    bnd (ratio_Rat_Times a1 ([a2] : List T_ratio_Rat)) fun v4 =>
    some (v4, 0)
  else
  if (decide (a0 = 247)) = true then
    bnd (ratio_Rat_Sign a1) fun v5 =>
    bnd (α := Bool) (
        if (decide (v5 = 0)) = true then
          bnd (ratio_Rat_Sign a2) fun v6 =>
          some (decide (v6 = 0))
        else
          some false) fun x7 =>
    if x7 = true then
      bnd (ratio_From 1) fun v8 =>
      some (v8, 0)
    else
    bnd (ratio_Rat_By a1 a2) fun v9 =>
    if (!v9.2) = true then
      some (v9.1, 22)
    else
      some (v9.1, 0)
  else
  if (decide (a0 = 8968)) = true then
    bnd (ratio_Rat_Cmp a1 a2) fun v10 =>
    if (decide (v10 < 0)) = true then
      some (a2, 0)
    else
      some (a1, 0)
  else
  if (decide (a0 = 8970)) = true then
    bnd (ratio_Rat_Cmp a1 a2) fun v11 =>
    if (decide (0 < v11)) = true then
      some (a2, 0)
    else
      some (a1, 0)
  else
  if (decide (a0 = 124)) = true then
    bnd (ratio_Rat_Rest a1 a2) fun v12 =>
    some (v12, 0)
  else
  if (decide (a0 = 42)) = true then
    bnd (dyad_power a1 a2 a3) fun v13 =>
    some (v13.1, v13.2)
  else
  if (decide (a0 = 33)) = true then
    bnd (dyad_choose a1 a2 a3) fun v14 =>
    some (v14.1, v14.2)
  else
    some (((([] : List Int), false), ([] : List Int)), 22)

noncomputable def ratio_Rat_Limbs (a0 : T_ratio_Rat) : Option Int :=
  bnd (nat_Nat_Limbs a0.1.1) fun v1 =>
  bnd (ratio_Rat_down a0) fun v2 =>
  bnd (nat_Nat_Limbs v2) fun v3 =>
  some (mxI v1 v3)

noncomputable def dyad_Two (a0 : Int) (a1 : T_ratio_Rat) (a2 : T_ratio_Rat) (a3 : Int) : Option (T_ratio_Rat × Int) :=
  bnd (dyad_compares a0) fun v1 =>
  if v1 = true then
    bnd (ratio_Rat_Cmp a1 a2) fun v2 =>
    bnd (dyad_Compare a0 v2) fun v3 =>
    bnd (dyad_truth v3) fun v4 =>
    some (v4, 0)
  else
  bnd (dyad_judges a0) fun v5 =>
  if v5 = true then
    bnd (dyad_judge a0 a1 a2) fun v6 =>
    some (v6.1, v6.2)
  else
  bnd (dyad_reckons a0) fun v7 =>
  if (!v7) = true then
    some (((([] : List Int), false), ([] : List Int)), 20)
  else
  bnd (dyad_reckon a0 a1 a2 a3) fun v8 =>
  bnd (α := Int) (
      bnd (α := Bool) (
          if (decide (v8.2 = 0)) = true then
            bnd (ratio_Rat_Limbs v8.1) fun v9 =>
            some (decide (a3 < v9))
          else
            some false) fun x10 =>
      if x10 = true then
        some 26
      else
        some v8.2) fun x11 =>
  if (decide (x11 ≠ 0)) = true then
    some (((([] : List Int), false), ([] : List Int)), x11)
  else
    some (v8.1, 0)

-- s5 : i
noncomputable def law13_DyadTurned (a0 : T_api_Num) (a1 : T_api_Num) : Option Bool :=
  bnd (law13_read a0) fun v1 =>
  bnd (law13_read a1) fun v2 =>
  lt (α := Bool) (if (!v1.2) = true then true else (!v2.2)) fun x3 =>
  if x3 = true then
    bnd law13_awake fun v4 =>
    some v4
  else
  bnd (iter (σ := Int) (ξ := (Unit) ⊕ (Bool)) (fun s5 =>
      if (decide (s5 < (([43, 215, 8968, 8970, 61, 8800] : List Int).length : Int))) = true then
        bnd (get ([43, 215, 8968, 8970, 61, 8800] : List Int) s5) fun v6 =>
        bnd (dyad_Two v6 v1.1 v2.1 64) fun v7 =>
        bnd (get ([43, 215, 8968, 8970, 61, 8800] : List Int) s5) fun v8 =>
        bnd (dyad_Two v8 v2.1 v1.1 64) fun v9 =>
        lt (α := Bool) (if (decide (v7.2 ≠ 0)) = true then true else (decide (v9.2 ≠ 0))) fun x10 =>
        bnd (α := Bool) (
            if x10 = true then
              some true
            else
            bnd (ratio_Rat_Cmp v7.1 v9.1) fun v11 =>
            some (decide (v11 ≠ 0))) fun x12 =>
        if x12 = true then
          some (.inr (.inr (false)))
        else
          some (.inl (wrap .i64 (s5 + 1)))
      else
        some (.inr (.inl ()))) 0) fun x13 =>
  sm x13 (fun x14 =>
      bnd (dyad_Two 60 v1.1 v2.1 64) fun v16 =>
      bnd (dyad_Two 62 v2.1 v1.1 64) fun v17 =>
      bnd (dyad_Two 61 v1.1 v2.1 64) fun v18 =>
      bnd (dyad_Two 62 v1.1 v2.1 64) fun v19 =>
      bnd (ratio_Rat_Cmp v16.1 v17.1) fun v20 =>
      bnd (α := Bool) (
          if (decide (v20 = 0)) = true then
            bnd (ratio_Rat_Plus v16.1 ([v18.1, v19.1] : List T_ratio_Rat)) fun v21 =>
            bnd (ratio_From 1) fun v22 =>
            bnd (ratio_Rat_Cmp v21 v22) fun v23 =>
            some (decide (v23 = 0))
          else
            some false) fun x24 =>
      bnd (α := Bool) (
          if x24 = true then
            bnd law13_awake fun v25 =>
            some v25
          else
            some false) fun x26 =>
      some x26) fun x15 =>
  some x15
end Go.Sh
