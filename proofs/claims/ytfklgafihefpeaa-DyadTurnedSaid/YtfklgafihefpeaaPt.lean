/- The plain law: turned the other way round. -/
import Derived.Test.YtfklgafihefpeaaPq
set_option linter.unusedVariables false
set_option linter.unusedSimpArgs false
namespace Go.Sh
open Go.Ev Go.Nm

theorem cmpZ_swap (x y : Int) : cmpZ y x = -cmpZ x y := by unfold cmpZ; split <;> split <;> (try split) <;> (try split) <;> omega

theorem DyadTurned_ok (haw : law13_awake = some true) (a b : T_api_Num) :
    law13_DyadTurned a b = some true := by
  unfold law13_DyadTurned
  rcases read_ok a with ⟨r, hr⟩ | ⟨x, n, hr, rfl, hn, hg, hx, hnl⟩
  · rcases read_ok b with ⟨r2, hr2⟩ | ⟨y, m, hr2, _⟩
    · rw [bnd_eq hr, bnd_eq hr2, lt_s, if_pos (by simp), bnd_eq haw]
    · rw [bnd_eq hr, bnd_eq hr2, lt_s, if_pos (by simp), bnd_eq haw]
  rcases read_ok b with ⟨r2, hr2⟩ | ⟨y, m, hr2, rfl, hm, hgm, hy, hml⟩
  · rw [bnd_eq hr, bnd_eq hr2, lt_s, if_pos (by simp), bnd_eq haw]
  have h : Rd x n := ⟨hn, Nat.lt_of_lt_of_le (dec_lt _) (Nat.pow_le_pow_right (by omega) hx), Nat.lt_of_lt_of_le (dec_lt _) (Nat.pow_le_pow_right (by omega) hnl)⟩
  have k : Rd y m := ⟨hm, Nat.lt_of_lt_of_le (dec_lt _) (Nat.pow_le_pow_right (by omega) hy), Nat.lt_of_lt_of_le (dec_lt _) (Nat.pow_le_pow_right (by omega) hml)⟩
  have l1 := h.lt
  have l2 := k.lt
  rw [bnd_eq hr, bnd_eq hr2, lt_s, if_neg (by simp)]
  have hc := fun (c : Int) (b : Bool) (h1 : dyad_compares c = some true) (h2 : dyad_Compare c (cmpZ (x * dn m) (y * dn n)) = some b) =>
    Two_cmp x y n m (64 : Nat) b h1 h2 (by omega) (by omega) (by omega) (by omega)
  have hd := fun (c : Int) (b : Bool) (h1 : dyad_compares c = some true) (h2 : dyad_Compare c (cmpZ (y * dn n) (x * dn m)) = some b) =>
    Two_cmp y x m n (64 : Nat) b h1 h2 (by omega) (by omega) (by omega) (by omega)
  have hswap := cmpZ_swap (x * dn m) (y * dn n)
  have same : ∀ c ∈ ([43, 215, 8968, 8970, 61, 8800] : List Int), ∃ r1 r2, dyad_Two c (rt x n) (rt y m) 64 = some (r1, 0) ∧ dyad_Two c (rt y m) (rt x n) 64 = some (r2, 0) ∧ ratio_Rat_Cmp r1 r2 = some 0 := by
    intro c hcm
    simp only [List.mem_cons, List.not_mem_nil, or_false] at hcm
    rcases hcm with rfl | rfl | rfl | rfl | rfl | rfl
    · obtain ⟨p, q, hr, hp, hq, ht⟩ := Two_plus h k
      obtain ⟨p2, q2, hr2, hp2, hq2, ht2⟩ := Two_plus k h
      rw [Int.add_comm, Nat.mul_comm, hr] at hr2
      rw [← hr2] at ht2
      exact ⟨_, _, ht, ht2, RCmp_self p q (by omega) (by omega)⟩
    · obtain ⟨p, q, hr, hp, hq, ht⟩ := Two_times h k
      obtain ⟨p2, q2, hr2, hp2, hq2, ht2⟩ := Two_times k h
      rw [Int.mul_comm, Nat.mul_comm, hr] at hr2
      rw [← hr2] at ht2
      exact ⟨_, _, ht, ht2, RCmp_self p q (by omega) (by omega)⟩
    · refine ⟨_, _, Two_max h k, Two_max k h, ?_⟩
      by_cases e1 : x * dn m < y * dn n
      · rw [if_pos e1, if_neg (by omega)]
        exact RCmp_self y m (by omega) (by omega)
      · rw [if_neg e1]
        by_cases e2 : y * dn n < x * dn m
        · rw [if_pos e2]
          exact RCmp_self x n (by omega) (by omega)
        · rw [if_neg e2, RCmp_ok x y n m (by omega) (by omega) (by omega) (by omega), cmpZ_zero.2 (by omega)]
    · refine ⟨_, _, Two_min h k, Two_min k h, ?_⟩
      by_cases e1 : y * dn n < x * dn m
      · rw [if_pos e1, if_neg (by omega)]
        exact RCmp_self y m (by omega) (by omega)
      · rw [if_neg e1]
        by_cases e2 : x * dn m < y * dn n
        · rw [if_pos e2]
          exact RCmp_self x n (by omega) (by omega)
        · rw [if_neg e2, RCmp_ok x y n m (by omega) (by omega) (by omega) (by omega), cmpZ_zero.2 (by omega)]
    · refine ⟨_, _, hc 61 (decide (cmpZ (x * dn m) (y * dn n) = 0)) rfl rfl, hd 61 (decide (cmpZ (x * dn m) (y * dn n) = 0)) rfl ?_, tr_self _⟩
      show some (decide (cmpZ (y * dn n) (x * dn m) = 0)) = _
      rw [hswap]
      exact congrArg some (by rw [Bool.eq_iff_iff]; simp)
    · refine ⟨_, _, hc 8800 (decide (cmpZ (x * dn m) (y * dn n) ≠ 0)) rfl rfl, hd 8800 (decide (cmpZ (x * dn m) (y * dn n) ≠ 0)) rfl ?_, tr_self _⟩
      show some (decide (cmpZ (y * dn n) (x * dn m) ≠ 0)) = _
      rw [hswap]
      exact congrArg some (by rw [Bool.eq_iff_iff]; simp)
  have less : dyad_Two 60 (rt x n) (rt y m) 64 = _ := hc 60 (decide (cmpZ (x * dn m) (y * dn n) < 0)) rfl rfl
  have more : dyad_Two 62 (rt y m) (rt x n) 64 = some (tr (decide (cmpZ (x * dn m) (y * dn n) < 0)), 0) := by
    refine hd 62 _ rfl ?_
    show some (decide (0 < cmpZ (y * dn n) (x * dn m))) = _
    rw [hswap]
    exact congrArg some (by rw [Bool.eq_iff_iff]; simp)
  have equal : dyad_Two 61 (rt x n) (rt y m) 64 = _ := hc 61 (decide (cmpZ (x * dn m) (y * dn n) = 0)) rfl rfl
  have above : dyad_Two 62 (rt x n) (rt y m) 64 = _ := hc 62 (decide (0 < cmpZ (x * dn m) (y * dn n))) rfl rfl
  generalize cmpZ (x * dn m) (y * dn n) = z at less more equal above
  have lz : lim 0 = 0 := lim_zero_iff.2 rfl
  have lo := lim_one1
  have sum : ratio_Rat_Plus (tr (decide (z < 0))) [tr (decide (z = 0)), tr (decide (0 < z))] = some (rt 1 1) := by
    have d0 : dn 0 = 1 := rfl
    have d1 : dn 1 = 1 := rfl
    unfold tr
    by_cases z1 : z < 0
    · rw [decide_eq_true z1, decide_eq_false (show ¬ z = 0 by omega), decide_eq_false (show ¬ 0 < z by omega)]
      have := RPlus2_ok 1 0 0 1 1 0 0 1 (by simp [lo]) (by simp [lz]) (by simp [lo]) (by simp [lz]) (by simp [lz]) (by simp [lz]) (by simp [lo]) (by simp [lo]) (by rw [d0, d1]; exact red_one 1)
      rw [d0, d1] at this
      exact this.trans (congrArg some (red_one 1))
    · by_cases z2 : z = 0
      · rw [decide_eq_false z1, decide_eq_true z2, decide_eq_false (show ¬ 0 < z by omega)]
        have := RPlus2_ok 0 1 0 1 0 1 0 1 (by simp [lz]) (by simp [lo]) (by simp [lz]) (by simp [lo]) (by simp [lz]) (by simp [lz]) (by simp [lo]) (by simp [lo]) (by rw [d0, d1]; exact red_one 1)
        rw [d0, d1] at this
        exact this.trans (congrArg some (red_one 1))
      · rw [decide_eq_false z1, decide_eq_false z2, decide_eq_true (show 0 < z by omega)]
        have := RPlus2_ok 0 0 1 0 0 0 1 1 (by simp [lz]) (by simp [lz]) (by simp [lz]) (by simp [lz]) (by simp [lo]) (by simp [lo]) (by simp [lz]) (by simp [lo]) (by rw [d0]; exact red_one 0)
        rw [d1] at this
        exact this.trans (congrArg some (red_one 1))
  refine bnd_iter (fun k t => ∃ i : Nat, t = (i : Int) ∧ i + k = 6) (fun r => r = .inl ()) 6 ⟨0, rfl, rfl⟩ ?_ ?_
  · rintro k t ⟨i, rfl, hik⟩
    have hlen : ((([43, 215, 8968, 8970, 61, 8800] : List Int).length : Nat) : Int) = 6 := rfl
    rw [hlen]
    by_cases hi : i < 6
    · left
      obtain ⟨c, hg, hcm⟩ : ∃ c, Ev.get ([43, 215, 8968, 8970, 61, 8800] : List Int) (i : Int) = some c ∧ c ∈ ([43, 215, 8968, 8970, 61, 8800] : List Int) := by
        have hg : ([43, 215, 8968, 8970, 61, 8800] : List Int)[i]? = some (([43, 215, 8968, 8970, 61, 8800] : List Int)[i]) := List.getElem?_eq_getElem hi
        refine ⟨_, ?_, List.getElem_mem hi⟩
        unfold Ev.get
        rw [if_pos (by omega), Int.toNat_natCast, hg]
      obtain ⟨r1, r2, t1, t2, t3⟩ := same c hcm
      rw [if_pos (by simp; omega), bnd_eq hg, bnd_eq t1, bnd_eq hg, bnd_eq t2, lt_s, if_neg (by simp), bnd_eq t3, bnd_s, if_neg (by simp), inc64 (by omega)]
      exact ⟨_, k - 1, rfl, by omega, i + 1, rfl, by omega⟩
    · right
      rw [if_neg (by simp; omega)]
      exact ⟨_, rfl, rfl⟩
  · rintro r rfl
    rw [sm_inl]
    dsimp only
    rw [bnd_eq less, bnd_eq more, bnd_eq equal, bnd_eq above, bnd_eq (tr_self _), if_pos (by simp), bnd_eq sum, bnd_eq (RFrom_ok 1 (by omega) (by omega)), bnd_eq (RCmp_self 1 1 (by simp [lo]) (by simp [lo])), bnd_s, if_pos (by simp), bnd_eq haw]
    rfl
end Go.Sh
