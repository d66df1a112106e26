/- How many bits a number has: plain arithmetic. -/
set_option linter.unusedVariables false
set_option linter.unusedSimpArgs false
namespace Go.Nm

def blen (x : Nat) : Nat := if x = 0 then 0 else Nat.log2 x + 1

theorem blen_lt (x : Nat) : x < 2 ^ blen x := by
  unfold blen
  split
  · omega
  · exact Nat.lt_log2_self

theorem blen_le {x : Nat} (h : x ≠ 0) : 2 ^ (blen x - 1) ≤ x := by
  unfold blen
  rw [if_neg h, Nat.add_sub_cancel]
  exact Nat.log2_self_le h

theorem blen_pos {x : Nat} (h : x ≠ 0) : 0 < blen x := by
  unfold blen
  rw [if_neg h]
  omega

theorem blen_uniq {x n : Nat} (h1 : 2 ^ n ≤ x) (h2 : x < 2 ^ (n + 1)) : blen x = n + 1 := by
  have h0 : x ≠ 0 := by
    have := Nat.two_pow_pos n
    omega
  have h3 := blen_lt x
  have h4 := blen_le h0
  have h5 : n < blen x := (Nat.pow_lt_pow_iff_right (by omega : 1 < 2)).1 (Nat.lt_of_le_of_lt h1 h3)
  have h6 : blen x - 1 < n + 1 := (Nat.pow_lt_pow_iff_right (by omega : 1 < 2)).1 (Nat.lt_of_le_of_lt h4 h2)
  omega

theorem blen_shift {x k : Nat} (h : 2 ^ k ≤ x) : blen x = k + blen (x / 2 ^ k) := by
  have hp := Nat.two_pow_pos k
  have h0 : x / 2 ^ k ≠ 0 := by
    have := Nat.div_pos h hp
    omega
  have h1 := blen_lt (x / 2 ^ k)
  have h2 := blen_le h0
  have h3 := blen_pos h0
  obtain ⟨m, hm⟩ : ∃ m, blen (x / 2 ^ k) = m + 1 := ⟨blen (x / 2 ^ k) - 1, by omega⟩
  rw [hm] at h1 h2 ⊢
  rw [Nat.add_sub_cancel] at h2
  have h4 : 2 ^ (k + m) ≤ x := by
    rw [Nat.pow_add, Nat.mul_comm]
    exact Nat.le_trans (Nat.mul_le_mul_right _ h2) (Nat.div_mul_le_self x (2 ^ k))
  have h5 : x < 2 ^ (k + m + 1) := by
    rw [Nat.add_assoc, Nat.pow_add, Nat.mul_comm]
    exact (Nat.div_lt_iff_lt_mul hp).1 h1
  rw [blen_uniq h4 h5]
  omega

theorem blen_mono {x n : Nat} (h : x < 2 ^ n) : blen x ≤ n := by
  by_cases h0 : x = 0
  · subst h0
    simp [blen]
  · have h4 := blen_le h0
    have := (Nat.pow_lt_pow_iff_right (by omega : 1 < 2)).1 (Nat.lt_of_le_of_lt h4 h)
    omega

end Go.Nm
