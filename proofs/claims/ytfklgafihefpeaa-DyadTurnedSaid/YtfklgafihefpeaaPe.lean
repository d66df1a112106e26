/- Plain words: long division. -/
import Derived.Test.YtfklgafihefpeaaPd
set_option linter.unusedVariables false
set_option linter.unusedSimpArgs false
namespace Go.Sh
open Go.Ev Go.Nm

theorem guess_ok (l : List Int) (idx : Int) (u0 top next head q : Nat) (hget : Ev.get l idx = some (u0 : Int)) (hu : u0 < 4294967296) (ht : 2147483648 ≤ top) (ht2 : top < 4294967296) (hn : next < 4294967296)
    (hhead : head < top * 4294967296 + 4294967296) (hq0 : q ≤ head / top) (hq : ∀ g rest, g * top + rest = head → (4294967296 ≤ g ∨ rest * 4294967296 + u0 < g * next) → q < g) :
    ∃ g : Nat, iter (σ := Int × Int) (ξ := Int) (fun s14 =>
            bnd (α := Bool) (
                if (decide (4294967296 ≤ s14.1)) = true then
                  some true
                else
                bnd (Ev.get l idx) fun v15 =>
                some (decide ((bor .u64 (shl .u64 s14.2 32) (wrap .u64 v15)) < (wrap .u64 (s14.1 * (wrap .u64 (next : Int))))))) fun x16 =>
            if x16 = true then
              if (decide (4294967296 ≤ (wrap .u64 (s14.2 + (wrap .u64 (top : Int)))))) = true then
                some (.inr (wrap .u64 (s14.1 - 1)))
              else
                some (.inl ((wrap .u64 (s14.1 - 1)), (wrap .u64 (s14.2 + (wrap .u64 (top : Int))))))
            else
              some (.inr s14.1)) (((head / top : Nat) : Int), ((head % top : Nat) : Int)) = some (g : Int) ∧ q ≤ g ∧ g < 4294967296 ∧ g * (top * 4294967296 + next) ≤ head * 4294967296 + u0 := by
  have hbound : ∀ g rest, g * top + rest = head → g < 4294967298 := by
    intro g rest h
    refine Nat.lt_of_not_le fun hge => ?_
    have h1 : 4294967298 * top ≤ g * top := Nat.mul_le_mul_right _ hge
    omega
  obtain ⟨x, h1, g, rfl, h2, h3, h4⟩ := iter_inv (b := fun s14 : Int × Int =>
            bnd (α := Bool) (
                if (decide (4294967296 ≤ s14.1)) = true then
                  some true
                else
                bnd (Ev.get l idx) fun v15 =>
                some (decide ((bor .u64 (shl .u64 s14.2 32) (wrap .u64 v15)) < (wrap .u64 (s14.1 * (wrap .u64 (next : Int))))))) fun x16 =>
            if x16 = true then
              if (decide (4294967296 ≤ (wrap .u64 (s14.2 + (wrap .u64 (top : Int)))))) = true then
                some (.inr (wrap .u64 (s14.1 - 1)))
              else
                some (.inl ((wrap .u64 (s14.1 - 1)), (wrap .u64 (s14.2 + (wrap .u64 (top : Int))))))
            else
              some (.inr s14.1))
    (fun k s => ∃ g rest : Nat, s = ((g : Int), (rest : Int)) ∧ k = g ∧ g * top + rest = head ∧ rest < 4294967296 ∧ q ≤ g)
    (fun x => ∃ g : Nat, x = (g : Int) ∧ q ≤ g ∧ g < 4294967296 ∧ g * (top * 4294967296 + next) ≤ head * 4294967296 + u0)
    (by
      rintro k s ⟨g, rest, rfl, hk, hgr, hrest, hqg⟩
      have hg := hbound g rest hgr
      have hgn : g * next < 18446744073709551616 := by
        have : g * next ≤ 4294967297 * 4294967295 := Nat.mul_le_mul (by omega) (by omega)
        omega
      have e1 : bor .u64 (shl .u64 (rest : Int) 32) (wrap .u64 (u0 : Int)) = ((rest * 4294967296 + u0 : Nat) : Int) := by
        rw [shl32 rest hrest, wu64n (n := u0) (by omega), or64 rest u0 hrest hu]
      have e2 : wrap .u64 ((g : Int) * (wrap .u64 (next : Int))) = ((g * next : Nat) : Int) := by
        rw [wu64n (n := next) (by omega), ← Int.natCast_mul, wu64n hgn]
      have e3 : wrap .u64 ((rest : Int) + (wrap .u64 (top : Int))) = ((rest + top : Nat) : Int) := by
        rw [wu64n (n := top) (by omega), ← Int.natCast_add, wu64n (by omega)]
      have hcond : (if (decide (4294967296 ≤ (g : Int))) = true then some true else bnd (Ev.get l idx) fun v15 => some (decide ((bor .u64 (shl .u64 (rest : Int) 32) (wrap .u64 v15)) < (wrap .u64 ((g : Int) * (wrap .u64 (next : Int))))))) =
          some (decide (4294967296 ≤ g ∨ rest * 4294967296 + u0 < g * next)) := by
        by_cases hgB : 4294967296 ≤ g
        · rw [if_pos (by simp; omega)]
          simp [hgB]
        · rw [if_neg (by simp; omega), bnd_eq hget, e1, e2]
          refine congrArg some (decide_eq_decide.2 ?_)
          omega
      dsimp only
      rw [bnd_eq hcond, e3]
      by_cases hc : 4294967296 ≤ g ∨ rest * 4294967296 + u0 < g * next
      · have hlt := hq g rest hgr hc
        obtain ⟨g', rfl⟩ : ∃ g', g = g' + 1 := ⟨g - 1, by omega⟩
        have e4 : wrap .u64 (((g' + 1 : Nat) : Int) - 1) = (g' : Int) := by
          rw [show (((g' + 1 : Nat) : Int) - 1) = (g' : Int) by omega]
          exact wu64n (by omega)
        have hgr2 : g' * top + (rest + top) = head := by rw [Nat.add_mul] at hgr; omega
        rw [if_pos (by simpa using hc), e4]
        by_cases hr : 4294967296 ≤ rest + top
        · right
          refine ⟨_, by rw [if_pos (by simp; omega)], g', rfl, by omega, ?_, ?_⟩
          · refine Nat.lt_of_not_le fun hge => ?_
            have h1 : 4294967296 * top ≤ g' * top := Nat.mul_le_mul_right _ hge
            omega
          · have hg'B : g' < 4294967296 := by
              refine Nat.lt_of_not_le fun hge => ?_
              have h1 : 4294967296 * top ≤ g' * top := Nat.mul_le_mul_right _ hge
              omega
            have h5 : g' * next ≤ 4294967295 * 4294967295 := Nat.mul_le_mul (by omega) (by omega)
            have h6 : g' * (top * 4294967296 + next) = g' * top * 4294967296 + g' * next := by rw [Nat.mul_add, Nat.mul_assoc]
            rw [h6]
            omega
        · left
          refine ⟨_, g', by rw [if_neg (by simp; omega)], by omega, g', rest + top, rfl, rfl, hgr2, by omega, by omega⟩
      · right
        refine ⟨_, by rw [if_neg (by simpa using hc)], g, rfl, hqg, by omega, ?_⟩
        have h6 : g * (top * 4294967296 + next) = g * top * 4294967296 + g * next := by rw [Nat.mul_add, Nat.mul_assoc]
        rw [h6]
        omega)
    (head / top) (((head / top : Nat) : Int), ((head % top : Nat) : Int)) ⟨head / top, head % top, rfl, rfl, by rw [Nat.mul_comm]; exact Nat.div_add_mod _ _, by have := Nat.mod_lt head (show top > 0 by omega); omega, hq0⟩
  exact ⟨g, h1, h2, h3, h4⟩

theorem get_val : ∀ {l : List Nat} {i x : Nat}, Lt l → l[i]? = some x → x = val l / 4294967296 ^ i % 4294967296
  | [], i, x, _, h => by simp at h
  | y :: l, 0, x, hl, h => by
    simp at h
    subst h
    have := hl y (by simp)
    simp only [val, Nat.pow_zero, Nat.div_one]
    omega
  | y :: l, i + 1, x, hl, h => by
    rw [List.getElem?_cons_succ] at h
    have := get_val (fun z hz => hl z (by simp [hz])) h
    have hy := hl y (by simp)
    rw [this, val, Nat.pow_succ, Nat.mul_comm _ 4294967296, ← Nat.div_div_eq_div_mul]
    congr 2
    omega

theorem val_high {l : List Nat} {k : Nat} (h : Lt l) (hk : k ≤ l.length) (hz : ∀ i, k ≤ i → i < l.length → l[i]? = some 0) : val l < 4294967296 ^ k := by
  have h1 := val_append (l.take k) (l.drop k)
  rw [List.take_append_drop] at h1
  have h2 : val (l.drop k) = 0 := by
    have : ∀ m : List Nat, (∀ i, i < m.length → m[i]? = some 0) → val m = 0 := by
      intro m
      induction m with
      | nil => intro _; rfl
      | cons x m ih =>
        intro hm
        have h0 := hm 0 (by simp)
        simp at h0
        rw [val, h0, ih fun i hi => by have := hm (i + 1) (by simp; omega); rwa [List.getElem?_cons_succ] at this]
    refine this _ fun i hi => ?_
    rw [List.getElem?_drop]
    exact hz _ (by omega) (by rw [List.length_drop] at hi; omega)
  have h3 := val_lt (h.take k)
  rw [List.length_take, Nat.min_eq_left hk] at h3
  rw [h1, h2]
  omega

/-- One step of a long division: what is taken away. -/
theorem step_ok (o vv : List Nat) (j q g V : Nat) (hlo : Lt o) (hvv : Lt vv) (hV : val vv = V) (hV0 : 0 < V) (hj : j + (vv.length + 1) ≤ o.length) (hlen : vv.length < 1000000000)
    (hz : ∀ i, j + (vv.length + 1) ≤ i → i < o.length → o[i]? = some 0) (hq : q = val (o.drop j) / V) (hg : g = q ∨ g = q + 1) (hgB : g < 4294967296) (hlen2 : o.length < 4000000000) :
    ∃ o' : List Nat, (bnd (α := Int × List Int) (
            bnd (chk (0 ≤ (j : Int) ∧ (j : Int) < (wrap .i64 ((wrap .i64 ((j : Int) + ((vv.length : Nat) : Int))) + 1)) ∧ (wrap .i64 ((wrap .i64 ((j : Int) + ((vv.length : Nat) : Int))) + 1)) ≤ ((li o).length : Int))) fun v18 =>
            bnd (nat_under (li o) (j : Int).toNat ((wrap .i64 ((wrap .i64 ((j : Int) + ((vv.length : Nat) : Int))) + 1)).toNat - (j : Int).toNat) (li vv) (g : Int)) fun v19 =>
            bnd (chk (v19.2.length = (li o).length)) fun v20 =>
            if v19.1 = true then
              bnd (chk (0 ≤ (j : Int) ∧ (j : Int) < (wrap .i64 ((wrap .i64 ((j : Int) + ((vv.length : Nat) : Int))) + 1)) ∧ (wrap .i64 ((wrap .i64 ((j : Int) + ((vv.length : Nat) : Int))) + 1)) ≤ (v19.2.length : Int))) fun v21 =>
              bnd (nat_back v19.2 (j : Int).toNat ((wrap .i64 ((wrap .i64 ((j : Int) + ((vv.length : Nat) : Int))) + 1)).toNat - (j : Int).toNat) (li vv)) fun v22 =>
              bnd (chk (v22.2.length = v19.2.length)) fun v23 =>
              some ((wrap .u64 ((g : Int) - 1)), v22.2)
            else
              some ((g : Int), v19.2)) fun x => some x) = some ((q : Int), li o') ∧ Lt o' ∧ o'.length = o.length ∧ val o' + 4294967296 ^ j * (q * V) = val o ∧ val o' < 4294967296 ^ j * V := by
  have e1 : wrap .i64 ((wrap .i64 ((j : Int) + ((vv.length : Nat) : Int))) + 1) = ((j + (vv.length + 1) : Nat) : Int) := by
    rw [← Int.natCast_add, w64n (by omega)]
    exact inc64 (by omega)
  have e2 : j + (vv.length + 1) - j = vv.length + 1 := by omega
  rw [e1]
  simp only [Int.toNat_natCast, li_len, e2]
  have hchk : ∀ m : Nat, m = o.length → (0 ≤ (j : Int) ∧ (j : Int) < ((j + (vv.length + 1) : Nat) : Int) ∧ ((j + (vv.length + 1) : Nat) : Int) ≤ (m : Int)) := by
    intro m hm
    omega
  obtain ⟨o1, br, hu, hl1, hlen1, hbr, hs1, hv1⟩ := under_ok o vv j g hlo hvv hj hgB hlen
  obtain ⟨P, hP⟩ : ∃ P, 4294967296 ^ (j + (vv.length + 1)) = P := ⟨_, rfl⟩
  rw [hV, hP] at hv1
  have hsplit : val o = val (o.take j) + 4294967296 ^ j * val (o.drop j) := by
    have h1 := val_append (o.take j) (o.drop j)
    rw [List.take_append_drop, List.length_take, Nat.min_eq_left (by omega)] at h1
    exact h1
  have htake : val (o.take j) < 4294967296 ^ j := by
    have h3 := val_lt (hlo.take j)
    rwa [List.length_take, Nat.min_eq_left (by omega)] at h3
  have hdm := Nat.div_add_mod (val (o.drop j)) V
  have hmod := Nat.mod_lt (val (o.drop j)) hV0
  rw [← hq] at hdm
  revert hdm hmod
  generalize val (o.drop j) % V = R
  intro hdm hmod
  have hval : val o = val (o.take j) + 4294967296 ^ j * (q * V) + 4294967296 ^ j * R := by
    rw [hsplit, ← hdm, Nat.mul_add, Nat.mul_comm V q]
    omega
  have hRV : val (o.take j) + 4294967296 ^ j * R < 4294967296 ^ j * V := by
    have h1 : 4294967296 ^ j * (R + 1) ≤ 4294967296 ^ j * V := Nat.mul_le_mul_left _ hmod
    rw [Nat.mul_add] at h1
    omega
  have hhi : ∀ o2 : List Nat, Lt o2 → o2.length = o.length → (∀ i, i < j ∨ j + (vv.length + 1) ≤ i → o2[i]? = o[i]?) → val o2 < P := by
    intro o2 hl2 hlen2 hs2
    rw [← hP]
    refine val_high hl2 (by omega) fun i h1 h2 => ?_
    rw [hs2 i (.inr h1)]
    exact hz i h1 (by omega)
  have hv0 := hhi o hlo rfl (fun _ _ => rfl)
  have hv1' := hhi o1 hl1 hlen1 hs1
  rw [bnd_eq (chk_t (hchk _ rfl)), bnd_eq hu]
  dsimp only
  rw [bnd_eq (chk_t (by rw [li_len, hlen1]))]
  by_cases hb1 : br = 1
  · subst hb1
    have hgq : g = q + 1 := by
      rcases hg with hg | hg
      · subst hg
        omega
      · exact hg
    subst hgq
    obtain ⟨o2, t, hbk, hl2, hlen2, hs2, hv2⟩ := back_ok o1 vv j hl1 hvv (by omega) hlen
    rw [hV, hP] at hv2
    have hv2' := hhi o2 hl2 (by omega) (fun i hi => (hs2 i hi).trans (hs1 i hi))
    have hq1 : 4294967296 ^ j * ((q + 1) * V) = 4294967296 ^ j * (q * V) + 4294967296 ^ j * V := by rw [Nat.add_mul, Nat.one_mul, Nat.mul_add]
    rw [hq1] at hv1
    have ht : t = 1 := by
      rcases Nat.lt_trichotomy t 1 with h | h | h
      · have : t = 0 := by omega
        subst this
        omega
      · exact h
      · have h5 : P * 2 ≤ P * t := Nat.mul_le_mul_left _ h
        omega
    subst ht
    have e3 : wrap .u64 (((q + 1 : Nat) : Int) - 1) = (q : Int) := by
      rw [show (((q + 1 : Nat) : Int) - 1) = (q : Int) by omega]
      exact wu64n (by omega)
    refine ⟨o2, ?_, hl2, by omega, by omega, by omega⟩
    rw [if_pos (by simp), li_len, bnd_eq (chk_t (hchk _ hlen1)), bnd_eq hbk]
    dsimp only
    rw [bnd_eq (chk_t (by rw [li_len, hlen2])), e3, bnd_s]
  · have hb0 : br = 0 := by omega
    subst hb0
    have hgq : g = q := by
      rcases hg with hg | hg
      · exact hg
      · subst hg
        have hq1 : 4294967296 ^ j * ((q + 1) * V) = 4294967296 ^ j * (q * V) + 4294967296 ^ j * V := by rw [Nat.add_mul, Nat.one_mul, Nat.mul_add]
        rw [hq1] at hv1
        omega
    subst hgq
    refine ⟨o1, ?_, hl1, hlen1, by omega, by omega⟩
    rw [if_neg (by simp), bnd_s]
end Go.Sh
