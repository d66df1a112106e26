/- Plain words: a number's digits. -/
import Derived.Test.YtfklgafihefpeaaPi
set_option linter.unusedVariables false
set_option linter.unusedSimpArgs false
namespace Go.Sh
open Go.Ev Go.Nm

/-- The digits of a number, the lowest first. -/
def dl (n : Nat) : List Nat := if h : n = 0 then [] else (48 + n % 10) :: dl (n / 10)
termination_by n
decreasing_by omega
theorem dl0 : dl 0 = [] := by rw [dl]; simp
theorem dl_pos {n : Nat} (h : n ≠ 0) : dl n = (48 + n % 10) :: dl (n / 10) := by rw [dl, dif_neg h]
theorem dl_len : ∀ (j n : Nat), n < 10 ^ j → (dl n).length ≤ j
  | 0, n, h => by
    have : n = 0 := by simpa using h
    simp [this, dl0]
  | j + 1, n, h => by
    by_cases h0 : n = 0
    · simp [h0, dl0]
    · rw [dl_pos h0, List.length_cons]
      have : n / 10 < 10 ^ j := by
        rw [Nat.pow_succ] at h
        exact Nat.div_lt_of_lt_mul (by rw [Nat.mul_comm]; exact h)
      have := dl_len j (n / 10) this
      omega

/-- A number in digits. -/
def dec (n : Nat) : Str := if n = 0 then [48] else ofCodes (li (dl n).reverse)

theorem app_li {b : Nat} {o m : List Nat} (h : (o.length + m.length) * b ≤ 140737488355328) (h2 : o.length + m.length ≤ 1099511627776) : app b (li o) (li m) = some (li (o ++ m)) := by
  unfold app
  rw [li_len, li_len, if_pos ⟨h, h2⟩, li_app]
theorem wu8n {n : Nat} (h : n < 256) : wrap .u8 (n : Int) = (n : Int) := by
  show IntKind.wrap .u8 _ = _
  unfold IntKind.wrap IntKind.bits IntKind.signed
  simp
  omega

/-- The digits of nine places. -/
theorem text_in (n' r : Nat) (out : List Nat) (hr : r < 1000000000) (hout : out.length + (dl (r + 1000000000 * n')).length < 1000000000) :
    ∃ x, iter (σ := Int × Int × List Int) (ξ := List Int) (fun s4 =>
            bnd (α := Bool) (
                if (decide (s4.2.1 < 9)) = true then
                  bnd (α := Bool) (
                      if (decide (0 < s4.1)) = true then
                        some true
                      else
                      bnd (nat_Nat_Zero (nt n')) fun v5 =>
                      some (!v5)) fun x6 =>
                  some x6
                else
                  some false) fun x7 =>
            if x7 = true then
              bnd (app 1 s4.2.2 ([(wrap .u8 (wrap .u32 (48 + (Int.tmod s4.1 10))))] : List Int)) fun v8 =>
              some (.inl ((wrap .u32 (Int.tdiv s4.1 10)), (wrap .i64 (s4.2.1 + 1)), v8))
            else
              some (.inr s4.2.2)) ((r : Int), 0, li out) = some x ∧ ∃ o : List Nat, x = li o ∧ o ++ dl n' = out ++ dl (r + 1000000000 * n') := by
  refine iter_inv
    (fun k s => ∃ (q i T : Nat) (o : List Nat), s = ((q : Int), (i : Int), li o) ∧ k = 9 - i ∧ i ≤ 9 ∧ T = 10 ^ (9 - i) ∧ q < T ∧ o ++ dl (q + T * n') = out ++ dl (r + 1000000000 * n'))
    (fun x => ∃ o : List Nat, x = li o ∧ o ++ dl n' = out ++ dl (r + 1000000000 * n')) ?_ 9 _ ⟨r, 0, 1000000000, out, rfl, rfl, by omega, by decide, hr, rfl⟩
  · rintro k s ⟨q, i, T, o, rfl, hk, hi9, hT, hq, ho⟩
    dsimp only
    have hc : (if (decide ((i : Int) < 9)) = true then
                  bnd (α := Bool) (
                      if (decide (0 < (q : Int))) = true then
                        some true
                      else
                      bnd (nat_Nat_Zero (nt n')) fun v5 =>
                      some (!v5)) fun x6 =>
                  some x6
                else
                  some false) = some (decide (i < 9 ∧ (0 < q ∨ n' ≠ 0))) := by
      by_cases h1 : i < 9
      · rw [if_pos (by simp; omega), bnd_id]
        by_cases h2 : 0 < q
        · rw [if_pos (by simp; omega)]
          simp [h1, h2]
        · rw [if_neg (by simp; omega), bnd_eq (Zero_ok n')]
          simp [h1, h2]
      · rw [if_neg (by simp; omega)]
        simp [h1]
    rw [bnd_eq hc]
    by_cases h1 : i < 9
    · obtain ⟨T', hT', hTT⟩ : ∃ T', T' = 10 ^ (9 - (i + 1)) ∧ T = 10 * T' := ⟨_, rfl, by rw [hT, show 9 - i = (9 - (i + 1)) + 1 by omega, Nat.pow_succ, Nat.mul_comm]⟩
      have hT'0 : 0 < T' := by rw [hT']; exact Nat.pow_pos (by omega)
      have hT1 : T' ≤ 10 ^ 8 := by rw [hT']; exact Nat.pow_le_pow_right (by omega) (by omega)
      have hT3 := hT'
      clear hT hT'
      subst hTT
      by_cases h2 : 0 < q ∨ n' ≠ 0
      · left
        rw [if_pos (by simp [h1]; omega)]
        have hmn : 10 * T' * n' = 10 * (T' * n') := Nat.mul_assoc _ _ _
        have hne : q + 10 * T' * n' ≠ 0 := by
          rcases h2 with h2 | h2
          · omega
          · have := Nat.mul_pos hT'0 (Nat.pos_iff_ne_zero.2 h2)
            omega
        rw [hmn] at hne ho
        have hdl := dl_pos hne
        have e1 : (q + 10 * (T' * n')) % 10 = q % 10 := by omega
        have e2 : (q + 10 * (T' * n')) / 10 = q / 10 + T' * n' := by omega
        rw [e1, e2] at hdl
        have hlen := congrArg List.length ho
        rw [hdl] at hlen ho
        simp only [List.length_append, List.length_cons] at hlen
        have ed : wrap .u8 (wrap .u32 (48 + (Int.tmod (q : Int) 10))) = ((48 + q % 10 : Nat) : Int) := by
          rw [show Int.tmod (q : Int) 10 = ((q % 10 : Nat) : Int) from tmodn q 10, show (48 : Int) + ((q % 10 : Nat) : Int) = ((48 + q % 10 : Nat) : Int) by omega, w32n (by omega), wu8n (by omega)]
        have eq : wrap .u32 (Int.tdiv (q : Int) 10) = ((q / 10 : Nat) : Int) := by
          rw [show Int.tdiv (q : Int) 10 = ((q / 10 : Nat) : Int) from tdivn q 10, w32n (by omega)]
        rw [ed, eq, inc64 (by omega)]
        have ha : app 1 (li o) ([((48 + q % 10 : Nat) : Int)] : List Int) = some (li (o ++ [48 + q % 10])) := app_li (m := [48 + q % 10]) (by simp; omega) (by simp; omega)
        rw [bnd_eq ha]
        exact ⟨_, k - 1, rfl, by omega, q / 10, i + 1, T', o ++ [48 + q % 10], rfl, by omega, by omega, hT3, by omega, by rw [List.append_assoc]; exact ho⟩
      · right
        rw [if_neg (by simp [h1]; omega)]
        have hq0 : q = 0 := by omega
        have hn0 : n' = 0 := by omega
        refine ⟨_, rfl, o, rfl, ?_⟩
        rw [← ho, hq0, hn0, Nat.mul_zero]
    · right
      rw [if_neg (by simp; omega)]
      have hi : i = 9 := by omega
      subst hi
      have hT1 : T = 1 := by simpa using hT
      subst hT1
      refine ⟨_, rfl, o, rfl, ?_⟩
      rw [← ho, show q = 0 by omega, Nat.zero_add, Nat.one_mul]
end Go.Sh
