/- Plain words: what two numbers make (comparing, adding, multiplying, the greater, the less). -/
import Derived.Test.YtfklgafihefpeaaPp
set_option linter.unusedVariables false
set_option linter.unusedSimpArgs false
namespace Go.Sh
open Go.Ev Go.Nm

theorem lim9 {n j : Nat} (h : n < 10 ^ (9 * j)) : lim n ≤ j := by
  refine lim_le (Nat.lt_of_lt_of_le h ?_)
  rw [Nat.pow_mul]
  exact Nat.pow_le_pow_left (by omega) j

/-- A truth as a number. -/
def tr (b : Bool) : T_ratio_Rat := rt (if b = true then 1 else 0) (if b = true then 1 else 0)
theorem truth_tr (b : Bool) : dyad_truth b = some (tr b) := by
  rw [truth_ok]
  cases b <;> rfl
theorem red_one (x : Int) : red x 1 = rt x 1 := by
  unfold red
  rw [Nat.gcd_one_right, Nat.div_one, Nat.div_one, sg_of]

theorem cmpZ_zero {x y : Int} : cmpZ x y = 0 ↔ x = y := by unfold cmpZ; split <;> (try split) <;> omega
theorem cmpZ_neg {x y : Int} : cmpZ x y < 0 ↔ x < y := by unfold cmpZ; split <;> (try split) <;> omega
theorem cmpZ_pos {x y : Int} : 0 < cmpZ x y ↔ y < x := by unfold cmpZ; split <;> (try split) <;> omega

theorem Two_cmp {c : Int} (x y : Int) (n m : Nat) (L : Int) (b : Bool) (hc : dyad_compares c = some true) (hb : dyad_Compare c (cmpZ (x * dn m) (y * dn n)) = some b)
    (hx : lim x.natAbs ≤ 200000000) (hy : lim y.natAbs ≤ 200000000) (hn : lim n ≤ 200000000) (hm : lim m ≤ 200000000) : dyad_Two c (rt x n) (rt y m) L = some (tr b, 0) := by
  unfold dyad_Two
  rw [bnd_eq hc, if_pos rfl, bnd_eq (RCmp_ok x y n m hx hy hn hm), bnd_eq hb, bnd_eq (truth_tr b)]

theorem Two_reckon {c : Int} {a b : T_ratio_Rat} {L : Nat} {p : Int} {q : Nat} (h1 : dyad_compares c = some false) (h2 : dyad_judges c = some false) (h3 : dyad_reckons c = some true)
    (h : dyad_reckon c a b (L : Int) = some (rt p q, 0)) (hp : lim p.natAbs ≤ L) (hq : lim (dn q) ≤ L) : dyad_Two c a b (L : Int) = some (rt p q, 0) := by
  unfold dyad_Two
  rw [bnd_eq h1, if_neg (by simp), bnd_eq h2, if_neg (by simp), bnd_eq h3, if_neg (by simp), bnd_eq h]
  have hl : (if decide ((rt p q, (0 : Int)).2 = 0) = true then bnd (ratio_Rat_Limbs (rt p q, (0 : Int)).1) fun v9 => some (decide ((L : Int) < v9)) else some false) = some false := by
    rw [if_pos (by simp), bnd_eq (RLimbs_ok p q)]
    congr 1
    simp only [decide_eq_false_iff_not]
    unfold mxI
    split <;> omega
  rw [hl, bnd_s, if_neg (by simp), bnd_s, if_neg (by simp)]

/-- A sum of two and a third. -/
theorem RPlus2_ok (x y z u : Int) (n m p v : Nat) (hx : lim x.natAbs ≤ 200000000) (hy : lim y.natAbs ≤ 200000000) (hn : lim n ≤ 200000000) (hm : lim m ≤ 200000000)
    (hz : lim z.natAbs ≤ 200000000) (hp : lim p ≤ 200000000) (hu : lim u.natAbs ≤ 200000000) (hv : lim v ≤ 200000000) (hr : red (x * dn m + y * dn n) (dn n * dn m) = rt u v) :
    ratio_Rat_Plus (rt x n) [rt y m, rt z p] = some (red (u * dn p + z * dn v) (dn v * dn p)) := by
  unfold ratio_Rat_Plus
  obtain ⟨e1, e2, e3, e4, e5⟩ := plus_red x y n m hx hy hn hm
  obtain ⟨f1, f2, f3, f4, f5⟩ := plus_red u z v p hu hz hv hp
  rw [hr] at e5
  have len2 : (([rt y m, rt z p] : List T_ratio_Rat).length : Int) = 2 := rfl
  have g0 : Ev.get [rt y m, rt z p] 0 = some (rt y m) := rfl
  have g1 : Ev.get [rt y m, rt z p] 1 = some (rt z p) := rfl
  have i12 : wrap .i64 ((1 : Int) + 1) = 2 := by decide
  have two : ∀ {σ ξ : Type} {b : σ → Option (σ ⊕ ξ)} {s s1 s2 : σ} {x : ξ}, b s = some (.inl s1) → b s1 = some (.inl s2) → b s2 = some (.inr x) → iter b s = some x := fun h1 h2 h3 =>
    iter_of (n := 3) (by simp [iterN, h1, h2, h3])
  rw [bnd_eq (two (s1 := (1, (rt u v).1.1, (rt u v).1.2, (rt u v).2)) (s2 := (2, (red (u * dn p + z * dn v) (dn v * dn p)).1.1, (red (u * dn p + z * dn v) (dn v * dn p)).1.2, (red (u * dn p + z * dn v) (dn v * dn p)).2))
    (x := ((red (u * dn p + z * dn v) (dn v * dn p)).1.1, (red (u * dn p + z * dn v) (dn v * dn p)).1.2, (red (u * dn p + z * dn v) (dn v * dn p)).2)) ?_ ?_ ?_)]
  · rw [len2]
    dsimp only
    rw [if_pos (by simp), g0, bnd_s, bnd_eq (Rund_ok y m), show ((rt x n).1.1, (rt x n).1.2) = wh x from rfl, rt1, bnd_eq e1, show (wh x, (rt x n).2) = rt x n from rfl, bnd_eq (Rund_ok x n), bnd_eq e2, bnd_eq e3, bnd_eq (Rund_ok x n), bnd_eq (Rund_ok y m), bnd_eq e4, bnd_eq e5]
    rfl
  · rw [len2]
    dsimp only
    rw [if_pos (by simp), g1, bnd_s, bnd_eq (Rund_ok z p), show ((rt u v).1.1, (rt u v).1.2) = wh u from rfl, rt1, bnd_eq f1, show (wh u, (rt u v).2) = rt u v from rfl, bnd_eq (Rund_ok u v), bnd_eq f2, bnd_eq f3, bnd_eq (Rund_ok u v), bnd_eq (Rund_ok z p), bnd_eq f4, bnd_eq f5, i12]
  · rw [len2]
    dsimp only
    rw [if_neg (by simp)]

theorem red_le (x : Int) (d : Nat) : ∃ p q, red x d = rt p q ∧ p.natAbs ≤ x.natAbs ∧ q ≤ d ∧ (0 < d → 0 < q) := by
  refine ⟨_, _, rfl, ?_, Nat.div_le_self _ _, fun h => ?_⟩
  · rw [sg_abs]; exact Nat.div_le_self _ _
  · exact Nat.div_pos (Nat.gcd_le_right _ h) (Nat.gcd_pos_of_pos_right _ h)

/-- Numbers that a statement reads. -/
structure Rd (x : Int) (n : Nat) : Prop where
  pos : 0 < n
  top : x.natAbs < 10 ^ 40
  bot : n < 10 ^ 40

theorem Rd.lt {x : Int} {n : Nat} (h : Rd x n) : lim x.natAbs ≤ 5 ∧ lim n ≤ 5 :=
  ⟨lim9 (Nat.lt_of_lt_of_le h.top (Nat.pow_le_pow_right (by omega) (by omega))), lim9 (Nat.lt_of_lt_of_le h.bot (Nat.pow_le_pow_right (by omega) (by omega)))⟩

theorem Two_plus {x y : Int} {n m : Nat} (h : Rd x n) (k : Rd y m) : ∃ p q, red (x * dn m + y * dn n) (dn n * dn m) = rt p q ∧ lim p.natAbs ≤ 20 ∧ lim q ≤ 20 ∧ dyad_Two 43 (rt x n) (rt y m) (64 : Nat) = some (rt p q, 0) := by
  obtain ⟨p, q, hr, hp, hq, hq0⟩ := red_le (x * dn m + y * dn n) (dn n * dn m)
  have l1 := h.lt
  have l2 := k.lt
  have d1 := lim_dn (k := 5) l1.2 (by omega)
  have d2 := lim_dn (k := 5) l2.2 (by omega)
  have a1 : lim (x * (dn m : Int)).natAbs ≤ 5 + 5 := lim_absmul l1.1 (by rw [Int.natAbs_natCast]; exact d2)
  have a2 : lim (y * (dn n : Int)).natAbs ≤ 5 + 5 := lim_absmul l2.1 (by rw [Int.natAbs_natCast]; exact d1)
  have a3 := lim_absadd a1 a2
  have a4 := lim_mul_le (dn n) (dn m)
  have b1 := lim_mono hp
  have b2 := lim_mono hq
  have b3 := lim_dn (n := q) (k := 20) (by omega) (by omega)
  refine ⟨p, q, hr, by omega, by omega, Two_reckon rfl rfl rfl ?_ (by omega) (by omega)⟩
  unfold dyad_reckon
  rw [if_pos (by simp), bnd_eq (RPlus_ok x y n m (by omega) (by omega) (by omega) (by omega)), hr]

theorem Two_times {x y : Int} {n m : Nat} (h : Rd x n) (k : Rd y m) : ∃ p q, red (x * y) (dn n * dn m) = rt p q ∧ lim p.natAbs ≤ 20 ∧ lim q ≤ 20 ∧ dyad_Two 215 (rt x n) (rt y m) (64 : Nat) = some (rt p q, 0) := by
  obtain ⟨p, q, hr, hp, hq, hq0⟩ := red_le (x * y) (dn n * dn m)
  have l1 := h.lt
  have l2 := k.lt
  have d1 := lim_dn (k := 5) l1.2 (by omega)
  have d2 := lim_dn (k := 5) l2.2 (by omega)
  have a1 : lim (x * y).natAbs ≤ 5 + 5 := lim_absmul l1.1 l2.1
  have a4 := lim_mul_le (dn n) (dn m)
  have b1 := lim_mono hp
  have b2 := lim_mono hq
  have b3 := lim_dn (n := q) (k := 20) (by omega) (by omega)
  refine ⟨p, q, hr, by omega, by omega, Two_reckon rfl rfl rfl ?_ (by omega) (by omega)⟩
  unfold dyad_reckon
  rw [if_neg (by simp), if_neg (by simp), if_pos (by simp), bnd_eq (RTimes_ok x y n m (by omega) (by omega) (by omega) (by omega)), hr]

theorem Two_max {x y : Int} {n m : Nat} (h : Rd x n) (k : Rd y m) : dyad_Two 8968 (rt x n) (rt y m) (64 : Nat) = some (if x * dn m < y * dn n then rt y m else rt x n, 0) := by
  have l1 := h.lt
  have l2 := k.lt
  have d1 := lim_dn (k := 5) l1.2 (by omega)
  have d2 := lim_dn (k := 5) l2.2 (by omega)
  have hc := RCmp_ok x y n m (by omega) (by omega) (by omega) (by omega)
  have hr : dyad_reckon 8968 (rt x n) (rt y m) (64 : Nat) = some (if x * dn m < y * dn n then rt y m else rt x n, 0) := by
    unfold dyad_reckon
    rw [if_neg (by simp), if_neg (by simp), if_neg (by simp), if_neg (by simp), if_pos (by simp), bnd_eq hc]
    by_cases hlt : x * dn m < y * dn n
    · rw [if_pos (by simpa using cmpZ_neg.2 hlt), if_pos hlt]
    · rw [if_neg (by simpa using fun h => hlt (cmpZ_neg.1 h)), if_neg hlt]
  by_cases hlt : x * dn m < y * dn n
  · rw [if_pos hlt] at hr ⊢
    exact Two_reckon rfl rfl rfl hr (by omega) (by omega)
  · rw [if_neg hlt] at hr ⊢
    exact Two_reckon rfl rfl rfl hr (by omega) (by omega)

theorem Two_min {x y : Int} {n m : Nat} (h : Rd x n) (k : Rd y m) : dyad_Two 8970 (rt x n) (rt y m) (64 : Nat) = some (if y * dn n < x * dn m then rt y m else rt x n, 0) := by
  have l1 := h.lt
  have l2 := k.lt
  have d1 := lim_dn (k := 5) l1.2 (by omega)
  have d2 := lim_dn (k := 5) l2.2 (by omega)
  have hc := RCmp_ok x y n m (by omega) (by omega) (by omega) (by omega)
  have hr : dyad_reckon 8970 (rt x n) (rt y m) (64 : Nat) = some (if y * dn n < x * dn m then rt y m else rt x n, 0) := by
    unfold dyad_reckon
    rw [if_neg (by simp), if_neg (by simp), if_neg (by simp), if_neg (by simp), if_neg (by simp), if_pos (by simp), bnd_eq hc]
    by_cases hlt : y * dn n < x * dn m
    · rw [if_pos (by simpa using cmpZ_pos.2 hlt), if_pos hlt]
    · rw [if_neg (by simpa using fun h => hlt (cmpZ_pos.1 h)), if_neg hlt]
  by_cases hlt : y * dn n < x * dn m
  · rw [if_pos hlt] at hr ⊢
    exact Two_reckon rfl rfl rfl hr (by omega) (by omega)
  · rw [if_neg hlt] at hr ⊢
    exact Two_reckon rfl rfl rfl hr (by omega) (by omega)

theorem RCmp_self (x : Int) (n : Nat) (h1 : lim x.natAbs ≤ 200000000) (h2 : lim n ≤ 200000000) : ratio_Rat_Cmp (rt x n) (rt x n) = some 0 := by
  rw [RCmp_ok x x n n h1 h1 h2 h2, cmpZ_zero.2 rfl]
theorem tr_self (b : Bool) : ratio_Rat_Cmp (tr b) (tr b) = some 0 := by
  unfold tr
  cases b
  · exact RCmp_self 0 0 (by rw [show lim (0 : Int).natAbs = 0 from lim_zero_iff.2 rfl]; omega) (by rw [show lim 0 = 0 from lim_zero_iff.2 rfl]; omega)
  · exact RCmp_self 1 1 (by rw [show lim (1 : Int).natAbs = 1 from lim_one1]; omega) (by show lim 1 ≤ _; rw [lim_one1]; omega)
end Go.Sh
