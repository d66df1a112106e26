/- Natural numbers as rows of limbs, the least one first: plain arithmetic, no program in it. -/
set_option linter.unusedVariables false
set_option linter.unusedSimpArgs false
namespace Go.Nm

/-- What a row of limbs is worth. -/
def val : List Nat → Nat
  | [] => 0
  | x :: l => x + 4294967296 * val l

def Lt (l : List Nat) : Prop := ∀ x ∈ l, x < 4294967296

/-- The row of a number. -/
def limbs (n : Nat) : List Nat := if h : n = 0 then [] else n % 4294967296 :: limbs (n / 4294967296)
termination_by n
decreasing_by omega

theorem limbs_zero : limbs 0 = [] := by rw [limbs]; simp
theorem limbs_pos {n : Nat} (h : n ≠ 0) : limbs n = n % 4294967296 :: limbs (n / 4294967296) := by rw [limbs, dif_neg h]

theorem val_limbs (n : Nat) : val (limbs n) = n := by
  induction n using Nat.strongRecOn with
  | _ n ih =>
    by_cases h : n = 0
    · subst h
      rw [limbs_zero]
      rfl
    · rw [limbs_pos h, val, ih (n / 4294967296) (by omega)]
      omega

theorem limbs_lt (n : Nat) : Lt (limbs n) := by
  induction n using Nat.strongRecOn with
  | _ n ih =>
    by_cases h : n = 0
    · subst h
      rw [limbs_zero]
      intro x hx
      cases hx
    · rw [limbs_pos h]
      intro x hx
      rcases List.mem_cons.1 hx with rfl | hx
      · omega
      · exact ih (n / 4294967296) (by omega) x hx

/-- A row as a number's own: no limb too great, the greatest one not 0. -/
def Can (l : List Nat) : Prop := Lt l ∧ l.getLast? ≠ some 0

theorem Can.tail {x y : Nat} {l : List Nat} (h : Can (x :: y :: l)) : Can (y :: l) :=
  ⟨fun z hz => h.1 z (List.mem_cons_of_mem _ hz), by have := h.2; simpa [List.getLast?_cons_cons] using this⟩

theorem Can.pos : ∀ {l : List Nat} {x : Nat}, Can (x :: l) → 0 < val (x :: l)
  | [], x, h => by
    have := h.2
    simp only [List.getLast?_singleton, ne_eq, Option.some.injEq] at this
    simp only [val]
    omega
  | y :: l, x, h => by
    have := Can.pos h.tail
    rw [val]
    omega

theorem limbs_val : ∀ {l : List Nat}, Can l → limbs (val l) = l
  | [], _ => limbs_zero
  | [x], h => by
    have h1 := Can.pos h
    have h2 := h.1 x (by simp)
    simp only [val] at h1 ⊢
    rw [limbs_pos (by omega)]
    have e1 : (x + 4294967296 * 0) % 4294967296 = x := by omega
    have e2 : (x + 4294967296 * 0) / 4294967296 = 0 := by omega
    rw [e1, e2, limbs_zero]
  | x :: y :: l, h => by
    have h1 := Can.pos h
    have h2 := h.1 x (by simp)
    have ih := limbs_val h.tail
    rw [limbs_pos (by omega)]
    have e1 : val (x :: y :: l) % 4294967296 = x := by rw [val]; omega
    have e2 : val (x :: y :: l) / 4294967296 = val (y :: l) := by rw [val]; omega
    rw [e1, e2, ih]

theorem limbs_can (n : Nat) : Can (limbs n) := by
  refine ⟨limbs_lt n, ?_⟩
  induction n using Nat.strongRecOn with
  | _ n ih =>
    by_cases h : n = 0
    · subst h
      rw [limbs_zero]
      simp
    · rw [limbs_pos h]
      by_cases h2 : n / 4294967296 = 0
      · rw [h2, limbs_zero]
        simp
        omega
      · have := ih (n / 4294967296) (by omega)
        rw [limbs_pos h2] at this ⊢
        rw [List.getLast?_cons_cons]
        exact this

theorem val_append : ∀ (a b : List Nat), val (a ++ b) = val a + 4294967296 ^ a.length * val b
  | [], b => by simp [val]
  | x :: a, b => by
    rw [List.cons_append, val, val_append a b, val, List.length_cons, Nat.pow_succ]
    rw [Nat.mul_add, Nat.add_assoc, ← Nat.mul_assoc, Nat.mul_comm 4294967296 (4294967296 ^ a.length)]

theorem val_lt : ∀ {l : List Nat}, Lt l → val l < 4294967296 ^ l.length
  | [], _ => by simp [val]
  | x :: l, h => by
    have h1 := h x (by simp)
    have h2 := val_lt (l := l) fun y hy => h y (List.mem_cons_of_mem _ hy)
    rw [val, List.length_cons, Nat.pow_succ]
    omega

/-- How many limbs. -/
def lim (n : Nat) : Nat := (limbs n).length

theorem lt_lim (n : Nat) : n < 4294967296 ^ lim n := by
  have := val_lt (limbs_lt n)
  rwa [val_limbs] at this

theorem lim_le {n k : Nat} (h : n < 4294967296 ^ k) : lim n ≤ k := by
  induction k generalizing n with
  | zero =>
    have : n = 0 := by simpa using h
    subst this
    simp [lim, limbs_zero]
  | succ k ih =>
    by_cases h0 : n = 0
    · subst h0
      simp [lim, limbs_zero]
    · have : n / 4294967296 < 4294967296 ^ k := by
        rw [Nat.pow_succ] at h
        exact Nat.div_lt_of_lt_mul (by rw [Nat.mul_comm]; exact h)
      have := ih this
      unfold lim at this ⊢
      rw [limbs_pos h0, List.length_cons]
      omega

theorem lim_iff {n k : Nat} : lim n ≤ k ↔ n < 4294967296 ^ k :=
  ⟨fun h => Nat.lt_of_lt_of_le (lt_lim n) (Nat.pow_le_pow_right (by omega) h), lim_le⟩

theorem lim_zero_iff {n : Nat} : lim n = 0 ↔ n = 0 := by
  constructor
  · intro h
    have := lim_iff.1 (Nat.le_of_eq h)
    simpa using this
  · rintro rfl
    simp [lim, limbs_zero]

/-- Rows that are worth the same, of one length, are the same. -/
theorem val_inj : ∀ {a b : List Nat}, Lt a → Lt b → a.length = b.length → val a = val b → a = b
  | [], [], _, _, _, _ => rfl
  | [], _ :: _, _, _, h, _ => by simp at h
  | _ :: _, [], _, _, h, _ => by simp at h
  | x :: a, y :: b, ha, hb, hl, hv => by
    have h1 := ha x (by simp)
    have h2 := hb y (by simp)
    simp only [val] at hv
    have e : x = y ∧ val a = val b := by omega
    have := val_inj (fun z hz => ha z (List.mem_cons_of_mem _ hz)) (fun z hz => hb z (List.mem_cons_of_mem _ hz)) (by simpa using hl) e.2
    rw [e.1, this]

theorem Lt.take {l : List Nat} (h : Lt l) (i : Nat) : Lt (l.take i) := fun x hx => h x (List.mem_of_mem_take hx)
theorem Lt.drop {l : List Nat} (h : Lt l) (i : Nat) : Lt (l.drop i) := fun x hx => h x (List.mem_of_mem_drop hx)
theorem Lt.get {l : List Nat} (h : Lt l) {i x : Nat} (hx : l[i]? = some x) : x < 4294967296 := h x (List.mem_of_getElem? hx)

theorem split_at {l : List Nat} {i x : Nat} (hx : l[i]? = some x) : l = l.take i ++ x :: l.drop (i + 1) := by
  obtain ⟨h, rfl⟩ := List.getElem?_eq_some_iff.1 hx
  rw [← List.drop_eq_getElem_cons h, List.take_append_drop]

theorem val_split {l : List Nat} {i x : Nat} (hx : l[i]? = some x) : val l = val (l.take i) + 4294967296 ^ i * (x + 4294967296 * val (l.drop (i + 1))) := by
  have hi : i < l.length := (List.getElem?_eq_some_iff.1 hx).1
  have e := congrArg val (split_at hx)
  rw [val_append, val, List.length_take, Nat.min_eq_left (Nat.le_of_lt hi)] at e
  exact e

theorem lt_at {a b : List Nat} (ha : Lt a) {i x y : Nat} (hx : a[i]? = some x) (hy : b[i]? = some y) (hd : a.drop (i + 1) = b.drop (i + 1)) (hxy : x < y) : val a < val b := by
  rw [val_split hx, val_split hy, hd]
  have h1 := val_lt (ha.take i)
  have hi : i < a.length := (List.getElem?_eq_some_iff.1 hx).1
  rw [List.length_take, Nat.min_eq_left (Nat.le_of_lt hi)] at h1
  have h2 : 4294967296 ^ i * (x + 4294967296 * val (b.drop (i + 1)) + 1) ≤ 4294967296 ^ i * (y + 4294967296 * val (b.drop (i + 1))) := Nat.mul_le_mul_left _ (by omega)
  rw [Nat.mul_add, Nat.mul_one] at h2
  omega

theorem lim_mono {m n : Nat} (h : m ≤ n) : lim m ≤ lim n := lim_le (Nat.lt_of_le_of_lt h (lt_lim n))

theorem val_take_succ (a : List Nat) (i : Nat) : val (a.take (i + 1)) = val (a.take i) + 4294967296 ^ i * (a[i]?).getD 0 := by
  rw [List.take_add_one, val_append]
  cases h : a[i]? with
  | none =>
    simp [val]
  | some x =>
    have hi : i < a.length := (List.getElem?_eq_some_iff.1 h).1
    simp [val, List.length_take, Nat.min_eq_left (Nat.le_of_lt hi)]

theorem digit (P t : Nat) : P * (t % 4294967296) + P * 4294967296 * (t / 4294967296) = P * t := by
  rw [Nat.mul_assoc, ← Nat.mul_add, Nat.mod_add_div]

theorem take_limbs {n k : Nat} (h : lim n ≤ k) : val ((limbs n).take k) = n := by
  rw [List.take_of_length_le h, val_limbs]

theorem val_set {o : List Nat} {k old : Nat} (h : o[k]? = some old) (t : Nat) : val (o.set k t) + 4294967296 ^ k * old = val o + 4294967296 ^ k * t := by
  have hk : k < o.length := (List.getElem?_eq_some_iff.1 h).1
  have h2 : (o.set k t)[k]? = some t := by simp [hk]
  rw [val_split h, val_split h2, List.take_set_of_le (Nat.le_refl _), List.drop_set_of_lt (Nat.lt_add_one k), Nat.mul_add, Nat.mul_add]
  omega

theorem Lt.set {o : List Nat} (h : Lt o) {k t : Nat} (ht : t < 4294967296) : Lt (o.set k t) := by
  intro x hx
  rcases List.mem_or_eq_of_mem_set hx with hx | rfl
  · exact h x hx
  · exact ht

theorem Lt.rep (k : Nat) : Lt (List.replicate k 0) := fun x hx => by
  have := (List.mem_replicate.1 hx).2
  omega

theorem val_rep (k : Nat) : val (List.replicate k 0) = 0 := by
  induction k with
  | zero => rfl
  | succ k ih => rw [List.replicate_succ, val, ih]

theorem snoc {α : Type} (l : List α) : l = [] ∨ ∃ k x, l = k ++ [x] := by
  rcases List.eq_nil_or_concat l with h | ⟨k, x, h⟩
  · exact .inl h
  · exact .inr ⟨k, x, by simpa using h⟩

end Go.Nm
