/- Bits of a machine word, as plain arithmetic: the borrow of a difference. -/
set_option linter.unusedVariables false
set_option linter.unusedSimpArgs false
namespace Go.Nm

theorem top_bit {v : Nat} (h : v < 4294967296) : v / 2147483648 = (v.testBit 31).toNat := by
  have e : v.testBit 31 = decide (v / 2 ^ 31 % 2 = 1) := by rw [Nat.testBit_eq_decide_div_mod_eq]
  rw [e]
  have h2 : v / 2147483648 < 2 := by omega
  have e2 : v / 2 ^ 31 = v / 2147483648 := rfl
  rw [e2]
  by_cases h3 : v / 2147483648 = 1
  · rw [h3]; rfl
  · have : v / 2147483648 = 0 := by omega
    rw [this]; rfl

theorem bit31 (v : Nat) (h : v < 4294967296) : v.testBit 31 = decide (2147483648 ≤ v) := by
  rw [Nat.testBit_eq_decide_div_mod_eq]
  have e2 : v / 2 ^ 31 = v / 2147483648 := rfl
  rw [e2]
  refine decide_eq_decide.2 ?_
  omega

theorem ones31 : Nat.testBit 4294967295 31 = true := by decide

/-- The borrow that the word's bits tell. -/
theorem borrow_bits (x y b d : Nat) (hx : x < 4294967296) (hy : y < 4294967296) (hb : b ≤ 1) (hd : (d : Int) = ((x : Int) - y - b) % 4294967296) :
    ((((4294967295 ^^^ x) &&& y) ||| ((4294967295 ^^^ (x ^^^ y)) &&& d)) / 2147483648 : Nat) = if x < y + b then 1 else 0 := by
  have hdl : d < 4294967296 := by omega
  have hlt : (((4294967295 ^^^ x) &&& y) ||| ((4294967295 ^^^ (x ^^^ y)) &&& d)) < 4294967296 := by
    have e : (4294967296 : Nat) = 2 ^ 32 := rfl
    rw [e] at *
    exact Nat.or_lt_two_pow (Nat.and_lt_two_pow _ hy) (Nat.and_lt_two_pow _ hdl)
  rw [top_bit hlt, Nat.testBit_or, Nat.testBit_and, Nat.testBit_and, Nat.testBit_xor, Nat.testBit_xor, Nat.testBit_xor, ones31, bit31 x hx, bit31 y hy, bit31 d hdl]
  by_cases h1 : 2147483648 ≤ x <;> by_cases h2 : 2147483648 ≤ y <;> by_cases h3 : 2147483648 ≤ d <;> by_cases h4 : x < y + b <;> simp [h1, h2, h3, h4] <;> omega

end Go.Nm
