/- Plain words: a number read. -/
import Derived.Test.YtfklgafihefpeaaPk
set_option linter.unusedVariables false
set_option linter.unusedSimpArgs false
namespace Go.Sh
open Go.Ev Go.Nm

def isD (c : UInt8) : Bool := decide (48 ≤ c.toNat) && decide (c.toNat ≤ 57)
def pf (v : Nat) (c : UInt8) : Nat := 10 * v + (c.toNat - 48)
def pv (s : Str) : Nat := s.foldl pf 0

theorem isD_iff (c : UInt8) : isD c = true ↔ 48 ≤ c.toNat ∧ c.toNat ≤ 57 := by simp [isD]
theorem pf_fold (s : Str) : ∀ v, s.foldl pf v = v * 10 ^ s.length + pv s := by
  induction s with
  | nil => intro v; simp [pv]
  | cons c s ih =>
    intro v
    have h1 := ih (pf v c)
    have h2 := ih (pf 0 c)
    have h3 : pv (c :: s) = pf 0 c * 10 ^ s.length + pv s := h2
    rw [List.foldl_cons, h1, h3, List.length_cons, Nat.pow_succ]
    unfold pf
    generalize 10 ^ s.length = P
    rw [Nat.add_mul, Nat.add_mul, Nat.mul_zero, Nat.zero_mul, Nat.zero_add, Nat.add_assoc, Nat.mul_comm 10 v, Nat.mul_assoc, Nat.mul_comm 10 P]
theorem pv_app (a b : Str) : pv (a ++ b) = pv a * 10 ^ b.length + pv b := by
  rw [pv, List.foldl_append, pf_fold]
  rfl
theorem pv_snoc (a : Str) (c : UInt8) : pv (a ++ [c]) = 10 * pv a + (c.toNat - 48) := by
  rw [pv, List.foldl_append]
  rfl
theorem pv_lt : ∀ s : Str, s.all isD = true → pv s < 10 ^ s.length := by
  intro s
  induction s with
  | nil => intro _; simp [pv]
  | cons c s ih =>
    intro h
    rw [List.all_cons, Bool.and_eq_true] at h
    have h1 := ih h.2
    have h2 := (isD_iff c).1 h.1
    rw [pv, List.foldl_cons, pf_fold, List.length_cons, Nat.pow_succ]
    unfold pf
    generalize 10 ^ s.length = P at *
    have : (10 * 0 + (c.toNat - 48)) * P ≤ 9 * P := Nat.mul_le_mul_right P (by omega)
    omega
theorem lim10 {n k : Nat} (h : n < 10 ^ k) : lim n ≤ k := lim_le (Nat.lt_of_lt_of_le h (Nat.pow_le_pow_left (by omega) k))

theorem mn9 (n : Nat) : mnI 9 (n : Int) = ((min 9 n : Nat) : Int) := by
  unfold mnI
  split <;> omega
theorem codes_get {s : Str} {i : Nat} {c : UInt8} (h : s[i]? = some c) : Ev.get (codes s) (i : Int) = some (c.toNat : Int) := by
  unfold Ev.get codes
  rw [if_pos (by omega), Int.toNat_natCast, List.getElem?_map, h]
  rfl
theorem sub_str {s : Str} {a b : Nat} (h1 : a ≤ b) (h2 : b ≤ s.length) : sub s (a : Int) (b : Int) = some ((s.take b).drop a) := by
  unfold Ev.sub
  rw [if_pos (by omega), Int.toNat_natCast, Int.toNat_natCast]
theorem all_take_succ {s : Str} {i : Nat} {c : UInt8} (h : s[i]? = some c) : (s.take (i + 1)).all isD = ((s.take i).all isD && isD c) := by
  rw [List.take_add_one, h, List.all_append]
  simp
theorem pv_take_succ {s : Str} {i : Nat} {c : UInt8} (h : s[i]? = some c) : pv (s.take (i + 1)) = 10 * pv (s.take i) + (c.toNat - 48) := by
  rw [List.take_add_one, h]
  exact pv_snoc _ _

theorem parse_in (s : Str) (hs : s.length ≤ 9) : iter (σ := Int × Int × Int) (ξ := (Int × Int) ⊕ (T_nat_Nat × Bool)) (fun s4 =>
            if (decide (s4.2.2 < ((codes s).length : Int))) = true then
              bnd (Ev.get (codes s) s4.2.2) fun v5 =>
              lt (α := Bool) (if (decide (v5 < 48)) = true then true else (decide (57 < v5))) fun x6 =>
              if x6 = true then
                some (.inr (.inr ((([] : List Int), false))))
              else
                some (.inl ((wrap .u64 ((wrap .u64 (10 * s4.1)) + (wrap .u64 (wrap .u8 (v5 - 48))))), (wrap .u64 (10 * s4.2.1)), (wrap .i64 (s4.2.2 + 1))))
            else
              some (.inr (.inl (s4.1, s4.2.1)))) (0, 1, 0) = some (if s.all isD = true then .inl ((pv s : Int), ((10 ^ s.length : Nat) : Int)) else .inr ([], false)) := by
  refine iter_eqI (fun k t => ∃ (i P : Nat), t = ((pv (s.take i) : Int), (P : Int), (i : Int)) ∧ i + k = s.length ∧ P = 10 ^ i ∧ (s.take i).all isD = true) _ ?_ (k := s.length) ⟨0, 1, by simp [pv], by omega, rfl, rfl⟩
  rintro k t ⟨i, P, rfl, hik, hP, hall⟩
  have hcl : ((codes s).length : Int) = (s.length : Int) := by simp [codes]
  dsimp only
  rw [hcl]
  by_cases hi : i < s.length
  · have hg : s[i]? = some s[i] := List.getElem?_eq_getElem hi
    revert hg
    generalize s[i] = c
    intro hg
    rw [if_pos (by simp; omega), bnd_eq (codes_get hg), lt_s]
    by_cases hc : 48 ≤ c.toNat ∧ c.toNat ≤ 57
    · left
      have hlt := pv_lt _ hall
      rw [List.length_take, Nat.min_eq_left (by omega), ← hP] at hlt
      have hP8 : P ≤ 10 ^ 8 := by rw [hP]; exact Nat.pow_le_pow_right (by omega) (by omega)
      have hnext := pv_take_succ hg
      have hall2 := all_take_succ hg
      rw [hall, (isD_iff c).2 hc] at hall2
      refine ⟨_, k - 1, ?_, by omega, i + 1, 10 * P, rfl, by omega, by rw [Nat.pow_succ, hP, Nat.mul_comm], hall2⟩
      rw [hnext]
      generalize pv (s.take i) = x at *
      rw [if_neg (by simp; omega), inc64 (by omega), show (10 : Int) * (x : Int) = ((10 * x : Nat) : Int) by omega, show (10 : Int) * (P : Int) = ((10 * P : Nat) : Int) by omega,
        show (c.toNat : Int) - 48 = ((c.toNat - 48 : Nat) : Int) by omega, wu8n (by omega), wu64n (by omega), wu64n (by omega), wu64n (by omega),
        show ((10 * x : Nat) : Int) + ((c.toNat - 48 : Nat) : Int) = ((10 * x + (c.toNat - 48) : Nat) : Int) by omega, wu64n (by omega)]
    · right
      rw [if_pos (by simp; omega)]
      have hf : ¬ s.all isD = true := fun h => hc ((isD_iff c).1 (List.all_eq_true.1 h c (List.mem_of_getElem? hg)))
      rw [if_neg hf]
  · right
    have hie : i = s.length := by omega
    subst hie
    rw [List.take_length] at hall ⊢
    rw [if_neg (by simp), if_pos hall, hP]

theorem Parse_ok (s : Str) : nat_Parse s = some (if s ≠ [] ∧ s.length ≤ 2000 ∧ s.all isD = true then (nt (pv s), true) else ([], false)) := by
  unfold nat_Parse
  rw [lt_s]
  by_cases h1 : s = []
  · subst h1
    rw [if_pos (by simp), if_neg (by simp)]
  by_cases h2 : s.length ≤ 2000
  · rw [if_neg (by simp [h1]; omega)]
    refine bnd_iter (fun k t => ∃ i : Nat, t = (s.drop i, nt (pv (s.take i))) ∧ i + k = s.length ∧ (s.take i).all isD = true)
      (fun x => x = if s.all isD = true then .inl (nt (pv s)) else .inr ([], false)) s.length ⟨0, by simp [pv, nt_zero], by omega, rfl⟩ ?_ ?_
    · rintro k t ⟨i, rfl, hik, hall⟩
      dsimp only
      by_cases hk : k = 0
      · right
        have hie : i = s.length := by omega
        subst hie
        rw [List.take_length] at hall ⊢
        rw [if_neg (by simp)]
        exact ⟨_, rfl, by rw [if_pos hall]⟩
      · have hdl : (s.drop i).length = k := by rw [List.length_drop]; omega
        have hm := mn9 (s.drop i).length
        have hsub := sub_str (s := s.drop i) (a := 0) (b := min 9 (s.drop i).length) (by omega) (by omega)
        rw [List.drop_zero] at hsub
        have hsub2 := sub_str (s := s.drop i) (a := min 9 (s.drop i).length) (b := (s.drop i).length) (by omega) (by omega)
        rw [List.take_length, List.drop_drop] at hsub2
        obtain ⟨j, hj⟩ : ∃ j, min 9 (s.drop i).length = j := ⟨_, rfl⟩
        have hj9 : j ≤ 9 := by omega
        have hjk : j ≤ k := by omega
        have hj0 : 0 < j := by omega
        rw [hj] at hm hsub hsub2
        rw [if_pos (by rw [hdl]; simp; omega), hm, show (0 : Int) = ((0 : Nat) : Int) from rfl, bnd_eq hsub]
        have hcl : ((s.drop i).take j).length = j := by rw [List.length_take, hdl]; omega
        have hin := parse_in ((s.drop i).take j) (by omega)
        rw [hcl] at hin
        have hst : s.take (i + j) = s.take i ++ (s.drop i).take j := List.take_add
        have hva : (s.take (i + j)).all isD = ((s.take i).all isD && ((s.drop i).take j).all isD) := by rw [hst, List.all_append]
        have hvp : pv (s.take (i + j)) = pv (s.take i) * 10 ^ j + pv ((s.drop i).take j) := by rw [hst, pv_app, hcl]
        have hlim := lim10 (pv_lt _ hall)
        rw [List.length_take] at hlim
        generalize (s.drop i).take j = c at *
        rw [show ((0 : Nat) : Int) = 0 from rfl, bnd_eq hin]
        by_cases hcd : c.all isD = true
        · left
          rw [if_pos hcd, sm_inl]
          have hclt := pv_lt c hcd
          rw [hcl] at hclt
          have h10 : 10 ^ j ≤ 10 ^ 9 := Nat.pow_le_pow_right (by omega) hj9
          have hl10 : lim (10 ^ j) ≤ 1 := lim_le (by rw [Nat.pow_one]; omega)
          have hlc : lim (pv c) ≤ 1 := lim_le (by rw [Nat.pow_one]; omega)
          have hl2 := lim_mul_le (pv (s.take i)) (10 ^ j)
          generalize 10 ^ j = P at *
          dsimp only
          rw [bnd_eq (Of_ok P (by omega)), bnd_eq (Mul_ok _ _ (by omega) (by omega)), bnd_eq (Of_ok (pv c) (by omega)), bnd_eq (Add_ok _ _ (by omega) (by omega)), ← hvp, bnd_eq hsub2]
          exact ⟨_, k - j, rfl, by omega, i + j, rfl, by omega, by rw [hva, hall, hcd]; rfl⟩
        · right
          rw [if_neg hcd, sm_inr]
          refine ⟨_, rfl, ?_⟩
          have hf : ¬ s.all isD = true := fun h => hcd (by
            have h3 : (s.take (i + j)).all isD = true := List.all_eq_true.2 fun x hx => List.all_eq_true.1 h x (List.mem_of_mem_take hx)
            rw [hva, Bool.and_eq_true] at h3
            exact h3.2)
          rw [if_neg hf]
    · rintro x rfl
      by_cases h3 : s.all isD = true
      · rw [if_pos h3, sm_inl, if_pos ⟨h1, h2, h3⟩]
      · rw [if_neg h3, sm_inr, if_neg (fun h => h3 h.2.2)]
  · rw [if_pos (by simp; omega), if_neg (fun h => h2 h.2.1)]
end Go.Sh
