/- Plain words: a number as text. -/
import Derived.Test.YtfklgafihefpeaaPj
set_option linter.unusedVariables false
set_option linter.unusedSimpArgs false
namespace Go.Sh
open Go.Ev Go.Nm

/-- Two ends change places till the middle. -/
theorem text_rev (l : List Nat) (h0 : 0 < l.length) (hl : l.length < 1000000000) :
    iter (σ := Int × Int × List Int) (ξ := List Int) (fun s11 =>
      if (decide (s11.1 < s11.2.1)) = true then
        bnd (Ev.get s11.2.2 s11.2.1) fun v12 =>
        bnd (Ev.get s11.2.2 s11.1) fun v13 =>
        bnd (put s11.2.2 s11.1 v12) fun v14 =>
        bnd (put v14 s11.2.1 v13) fun v15 =>
        some (.inl ((wrap .i64 (s11.1 + 1)), (wrap .i64 (s11.2.1 - 1)), v15))
      else
        some (.inr s11.2.2)) (0, (wrap .i64 (((li l).length : Int) - 1)), li l) = some (li l.reverse) := by
  refine iter_eqI (fun k s => ∃ (i j : Nat) (o : List Nat), s = ((i : Int), (j : Int), li o) ∧ i + j + 1 = l.length ∧ k = l.length - i ∧ o.length = l.length ∧ i ≤ j + 1 ∧
      ∀ t, t < l.length → o[t]? = if t < i ∨ j < t then l[l.length - 1 - t]? else l[t]?) _ ?_ (k := l.length) ⟨0, l.length - 1, l, ?_, by omega, rfl, rfl, by omega, ?_⟩
  · rintro k s ⟨i, j, o, rfl, hij, hk, hol, hle, ho⟩
    dsimp only
    by_cases hlt : i < j
    · left
      have hj : j < o.length := by omega
      have hi : i < o.length := by omega
      have gi : o[i]? = some o[i] := List.getElem?_eq_getElem hi
      have gj : o[j]? = some o[j] := List.getElem?_eq_getElem hj
      revert gi gj
      generalize o[i] = x
      generalize o[j] = y
      intro gi gj
      have li1 : l[i]? = some x := by rw [← gi, ho i (by omega), if_neg (by omega)]
      have lj1 : l[j]? = some y := by rw [← gj, ho j (by omega), if_neg (by omega)]
      have p1 : put (li o) (i : Int) (y : Int) = some (li (o.set i y)) := put_li hi
      have p2 : put (li (o.set i y)) (j : Int) (x : Int) = some (li ((o.set i y).set j x)) := put_li (by simpa using hj)
      refine ⟨_, k - 1, ?_, by omega, i + 1, j - 1, (o.set i y).set j x, rfl, by omega, by omega, by simpa using hol, by omega, ?_⟩
      · rw [if_pos (by simp; omega), bnd_eq (get_li gj), bnd_eq (get_li gi), bnd_eq p1, bnd_eq p2, inc64 (by omega), show wrap .i64 ((j : Int) - 1) = ((j - 1 : Nat) : Int) from by rw [show wrap .i64 ((j : Int) - 1) = (j : Int) - 1 from w64 (by omega) (by omega)]; omega]
      · intro t ht
        by_cases h1 : t = j
        · subst h1
          rw [List.getElem?_set_self (by simpa using hj), if_pos (by omega), show l.length - 1 - t = i by omega, li1]
        · rw [List.getElem?_set_ne (by omega)]
          by_cases h2 : t = i
          · subst h2
            rw [List.getElem?_set_self hi, if_pos (by omega), show l.length - 1 - t = j by omega, lj1]
          · rw [List.getElem?_set_ne (by omega), ho t ht]
            by_cases h3 : t < i ∨ j < t
            · rw [if_pos h3, if_pos (by omega)]
            · rw [if_neg h3, if_neg (by omega)]
    · right
      rw [if_neg (by simp; omega)]
      congr 3
      refine List.ext_getElem? fun t => ?_
      by_cases ht : t < l.length
      · rw [ho t ht, List.getElem?_reverse ht]
        by_cases h3 : t < i ∨ j < t
        · rw [if_pos h3]
        · rw [if_neg h3, show l.length - 1 - t = t by omega]
      · rw [List.getElem?_eq_none (by omega), List.getElem?_eq_none (by simp; omega)]
  · rw [li_len, show wrap .i64 ((l.length : Int) - 1) = ((l.length - 1 : Nat) : Int) from by rw [show wrap .i64 ((l.length : Int) - 1) = (l.length : Int) - 1 from w64 (by omega) (by omega)]; omega]
    rfl
  · intro t ht
    rw [if_neg (by omega)]

theorem Text_ok (n : Nat) (hn : lim n < 1000000000) (hd : (dl n).length < 1000000000) : nat_Nat_Text (nt n) = some (dec n) := by
  unfold nat_Nat_Text
  rw [nt_len]
  by_cases h0 : n = 0
  · rw [if_pos (by simp [lim_zero_iff.2 h0])]
    simp [dec, h0]
  have hl0 : lim n ≠ 0 := fun h => h0 (lim_zero_iff.1 h)
  rw [if_neg (by simp; omega)]
  refine bnd_iter (fun k s => ∃ (m : Nat) (o : List Nat), s = (nt m, li o) ∧ k = m ∧ lim m ≤ lim n ∧ o ++ dl m = dl n) (fun x => x = li (dl n)) n ⟨n, [], rfl, rfl, Nat.le_refl _, rfl⟩ ?_ ?_
  · rintro k s ⟨m, o, rfl, rfl, hlm, ho⟩
    dsimp only
    rw [bnd_eq (Zero_ok _)]
    by_cases hm : k = 0
    · right
      rw [if_neg (by simp [hm])]
      refine ⟨_, rfl, ?_⟩
      rw [← ho, hm, dl0, List.append_nil]
    · left
      have hdiv : k % 1000000000 + 1000000000 * (k / 1000000000) = k := by omega
      have hlen := congrArg List.length ho
      rw [List.length_append] at hlen
      obtain ⟨x, hx, o', rfl, ho'⟩ := text_in (k / 1000000000) (k % 1000000000) o (by omega) (by rw [hdiv]; omega)
      rw [hdiv] at ho'
      have hs := small_ok k 1000000000 (by omega) (by omega) (by omega)
      rw [if_pos (by simp [hm]), show (1000000000 : Int) = ((1000000000 : Nat) : Int) from rfl, bnd_eq hs, bnd_eq hx]
      exact ⟨_, k / 1000000000, rfl, by omega, k / 1000000000, o', rfl, rfl, by have := lim_mono (Nat.div_le_self k 1000000000); omega, by rw [ho', ho]⟩
  · rintro x rfl
    have hpos : 0 < (dl n).length := by rw [dl_pos h0]; simp
    rw [bnd_eq (text_rev (dl n) hpos hd)]
    unfold dec
    rw [if_neg h0]
end Go.Sh
