/- DyadTurned: whatever the two numbers, the law answers true and its arguments read as before. No condition. -/
import Derived.Test.YtfklgafihefpeaaRb
import Derived.Test.YtfklgafihefpeaaPt
import Derived.Test.YtfklgafihefpeaaRows
import Derived.ProofKit
import Derived.Carry
import Derived.ChangeArms
import Derived.ChangeSame
set_option linter.unusedVariables false
set_option linter.unusedSimpArgs false
namespace Go.Proofs.Ytfklgafihefpeaa
open Go.ChangeShapes Go.WideShapes Go.ChangeAt Go.RowKit

theorem Try.own : ownKnob Try.prog.godebug = none := by kernel_rfl
theorem Try.laidOut : laidOutB Try.prog = true := by kernel_rfl
theorem c25 : Try.prog.cellsOf 25 = 3 := by kernel_rfl
theorem c4 : Try.prog.cellsOf 4 = 1 := by kernel_rfl
theorem c9 : Try.prog.cellsOf 9 = 1 := by kernel_rfl

set_option maxRecDepth 100000 in
theorem open_num {H : Type} {enc : TypeId × Value → H} {W : World} {r : Reach} {base b0 : Nat} {sp : Nat → Bool} {hd : Bool} {v : Value} {d : DataW H} {p : List MemPlace}
    (hv : Value.okWide Try.prog W r b0 25 v) (h : DataW.Trod enc Try.prog W base sp hd 25 v d p) :
    ∃ (neg : Bool) (s t : ByteArray), v = .agg #[.bool neg, .string s, .string t] ∧ d = .agg [.lit (.bool neg), .lit (.string s.data.toList), .lit (.string t.data.toList)] ∧ p = [] ∧ s.size ≤ maxLen ∧ t.size ≤ maxLen := by
  obtain ⟨cs, rfl, hcs⟩ := okWide_struct Try.underlying25 hv
  obtain ⟨fuel, hf⟩ := h
  obtain ⟨xs, n, _, hx, hl, hlen, hfs⟩ := DataW.trod_struct Try.underlying25 hf
  rw [c25] at hl hcs
  obtain ⟨l⟩ := cs
  simp only [Value.cells] at hl hfs
  match l, hl with
  | [a, b, c], _ =>
    match xs, hlen with
    | [y0, y1, y2], _ =>
      have h0 := hfs 0 _ rfl
      have h1 := hfs 1 _ rfl
      have h2 := hfs 2 _ rfl
      simp only [c4, c9, List.drop_zero, List.drop_succ_cons, List.take_succ_cons, List.take_zero, List.getElem?_cons_zero, List.getElem?_cons_succ] at h0 h1 h2
      obtain ⟨neg, e0, rfl⟩ := DataW.trod_bool Try.underlying4 h0
      obtain ⟨s, e1, rfl, hs⟩ := DataW.trod_string Try.underlying9 h1
      obtain ⟨t, e2, rfl, ht⟩ := DataW.trod_string Try.underlying9 h2
      injection e0 with e0
      injection e1 with e1
      injection e2 with e2
      subst e0 e1 e2
      simp only [List.map_cons, List.map_nil, List.flatMap_cons, List.flatMap_nil, List.append_nil, Prod.mk.injEq] at hx
      exact ⟨neg, s, t, rfl, hx.1, hx.2, hs, ht⟩

set_option maxRecDepth 100000 in
theorem shut_num {H : Type} {enc : TypeId × Value → H} {W : World} {base : Nat} {sp : Nat → Bool} {hd : Bool} {neg : Bool} {s t : ByteArray} (hs : s.size ≤ maxLen) (ht : t.size ≤ maxLen) :
    DataW.Trod enc Try.prog W base sp hd 25 (.agg #[.bool neg, .string s, .string t]) (.agg [.lit (.bool neg), .lit (.string s.data.toList), .lit (.string t.data.toList)]) [] := by
  refine ⟨2, ?_⟩
  have h := trod_struct_mk (enc := enc) (w := W) (base := base) (spare := sp) (held := hd) (n := 1) (cs := [.bool neg, .string s, .string t]) (xs := [(.lit (.bool neg), []), (.lit (.string s.data.toList), []), (.lit (.string t.data.toList), [])])
    Try.underlying25 (by rw [c25]; rfl) (by simp [c4, c9, DataW.trod, Try.underlying4, Try.underlying9, hs, ht])
  simpa [Value.cells] using h

theorem rep_num (c : Go.Ev.Cx) (neg : Bool) (s t : ByteArray) : Go.Ev.RepV c (.agg [.bool neg, .str s, .str t]) (.agg #[.bool neg, .string s, .string t]) := by
  simp only [Go.Ev.RepV, Go.Ev.RepL]
  exact ⟨[.bool neg, .string s, .string t], rfl, _, _, rfl, rfl, rfl, _, _, rfl, rfl, rfl, _, _, rfl, rfl, rfl, rfl⟩

set_option maxRecDepth 100000 in
theorem dyadTurned_lifted (os : Os) (started : os.Started) (H : Type) (enc : TypeId × Value → H) :
    ReturnsInHanded {} Try.checked os 4 .any (Rows.dyadTurnedSpec.pre6 enc Try.prog Try.f4 Rows.dyadTurnedRow.domain false) (Rows.dyadTurnedSpec.post enc Try.prog Try.f4 false true false false) := by
  refine returnsInHanded_of_change (C := Try.checked) Try.own started (by kernel_rfl) Try.func4
    (ChangeSpec.witness6 (enc := enc) (C := Try.checked) false ⟨#[], #[.agg #[.bool false, .string ⟨#[]⟩, .string ⟨#[]⟩], .agg #[.bool false, .string ⟨#[]⟩, .string ⟨#[]⟩]], []⟩ 8 (by kernel_rfl) (by kernel_rfl) (by kernel_rfl) (by kernel_rfl)) ?_
  intro W base args ds gs before hval0 hW hcnd _
  have hval : ∀ (j : Nat) t v, Try.f4.params[j]? = some t → args[j]? = some v → Value.okWide Try.prog W .any base t v := hval0
  have hW' := hW
  obtain ⟨p, q, hA0, hV, rfl, hfz, hnd⟩ := hW
  have hA : DataW.TrodAll enc Try.prog W 0 (fun _ => true) true Try.f4.params.toList args.toList ds p := hA0
  rw [Try.params4] at hA hval
  obtain ⟨v0, v1, d0, d1, p0, p1, rfl, rfl, rfl, h0, h1⟩ := trodAll_two hA
  obtain ⟨rfl, rfl⟩ := trodVars_none hV
  obtain ⟨a, s, t, rfl, rfl, rfl, ws, wt⟩ := open_num (hval 0 25 v0 rfl rfl) h0
  obtain ⟨b, u, v, rfl, rfl, rfl, wu, wv⟩ := open_num (hval 1 25 v1 rfl rfl) h1
  clear hA0 hval0
  simp only [List.append_nil] at hW'
  have hr := Go.Ev.T.r4 (a, s.data.toList, t.data.toList) (b, u.data.toList, v.data.toList) true (Go.Sh.DyadTurned_ok rfl _ _)
  simp only [Go.Ev.T.c_api_Num, Go.Ev.bs_eq] at hr
  refine ((Go.Ev.FnN.of hr rfl).2 (fun _ => False) W [.agg #[.bool a, .string s, .string t], .agg #[.bool b, .string u, .string v]] (by simp) (by
    simp only [Go.Ev.RepT]
    exact ⟨_, _, rfl, rep_num _ _ _ _, _, _, rfl, rep_num _ _ _ _, rfl⟩)).mono fun e W' ⟨v, he, hbel, hv⟩ => ?_
  subst he
  simp only [Go.Ev.RepRes, Go.Ev.RepV] at hv
  subst hv
  refine ⟨_, rfl, _, _, _, [], [], [], hW', ?_, trodAll_mk2 (shut_num ws wt) (shut_num wu wv), rfl, hbel.frame _, fun h => by cases h⟩
  exact trodAll_mk1 (shut_bool Try.underlying4 _)

theorem dyadTurned_holds : Rows.DyadTurnedSaid :=
  OpenClaim.holds_of_wide 4 Try.f4 rfl rfl rfl rfl rfl rfl rfl ⟨rfl, rfl, rfl, rfl, rfl⟩ rfl rfl rfl rfl rfl (by kernel_rfl) Try.func4 (by kernel_rfl)
    (of_decide_eq_true (by kernel_rfl)) (by unfold Func.isWrapper; first | (rw [if_pos (by decide +kernel)]; kernel_rfl) | (rw [if_neg (by decide +kernel)]; exact ⟨rfl, rfl⟩))
    (fun os started H enc _ => dyadTurned_lifted os started H enc)
#print axioms dyadTurned_holds
end Go.Proofs.Ytfklgafihefpeaa
