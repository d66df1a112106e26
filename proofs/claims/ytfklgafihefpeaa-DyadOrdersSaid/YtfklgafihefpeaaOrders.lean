/- DyadOrders: whatever the sign and the order, the law answers true and its arguments read as before. No condition. -/
import Derived.Test.YtfklgafihefpeaaCode
import Derived.Test.YtfklgafihefpeaaRows
import Derived.ProofKit
import Derived.Carry
set_option linter.unusedVariables false
set_option linter.unusedSimpArgs false
namespace Go.Ev.T
open Go.Proofs
def cmp6 (c n : Int) : Bool := if c = 60 then decide (n < 0) else if c = 8804 then decide (n ≤ 0) else if c = 61 then decide (n = 0) else if c = 8805 then decide (0 ≤ n) else if c = 62 then decide (0 < n) else decide (n ≠ 0)
theorem fn6 (c n : Int) : Fn Try.prog 6 [.int .i32 c, .int .i64 n] (.bool (cmp6 c n)) := by
  refine Fn.of hm Try.func6 t6 (Nat.le_of_ble_eq_true rfl) ?_
  repeat' first
    | refine OpsR.cons ?_
    | refine OpsR.nil ?_
    | refine DrawR.cons rfl rfl ?_
    | refine DrawR.nil ?_
    | refine Run.seqO ?_
    | refine Run.seqW ?_
    | refine Run.seq ?_
    | refine Run.ops ?_
    | refine Run.drawn ?_
    | refine Run.block ?_
    | refine Run.exit ?_
    | refine Run.condT rfl ?_
    | refine Run.condF rfl ?_
    | refine Run.skip ?_
    | refine S.on rfl ?_
    | refine S.off rfl (by decide) ?_
    | refine S.offN rfl ?_
    | refine S.move rfl ?_
    | refine S.pick rfl rfl rfl rfl ?_
    | refine S.alloc rfl ?_
    | refine S.box rfl rfl rfl rfl ?_
    | refine S.loadP rfl rfl rfl ?_
    | refine S.loadC rfl rfl ?_
    | refine S.storeP rfl rfl rfl rfl rfl rfl (by decide) rfl ?_
    | refine S.faddrP rfl rfl ?_
    | refine S.faddrC rfl rfl ?_
    | refine S.field rfl rfl ?_
    | refine S.extract rfl rfl ?_
    | refine S.build (And.intro rfl rfl) (And.intro rfl (And.intro rfl (And.intro (by decide) rfl))) ?_
    | refine S.build (And.intro rfl rfl) (And.intro rfl (And.intro rfl (And.intro (by decide) (And.intro rfl (And.intro rfl (And.intro (by decide) rfl)))))) ?_
    | refine S.lenL rfl rfl ?_
    | refine S.lenV rfl ?_
    | refine S.lenN rfl ?_
    | refine S.lenS rfl rfl ?_
    | refine S.not rfl rfl ?_
    | refine S.binB rfl rfl rfl ?_
    | refine S.add rfl rfl (w64 (by omega) (by omega)) ?_
    | refine S.sub rfl rfl (w64 (by omega) (by omega)) ?_
    | refine S.eql rfl rfl (decide_eq_true (by omega)) ?_
    | refine S.eql rfl rfl (decide_eq_false (by omega)) ?_
    | refine S.neq rfl rfl (decide_eq_true (by omega)) ?_
    | refine S.neq rfl rfl (decide_eq_false (by omega)) ?_
    | refine S.lss rfl rfl (decide_eq_true (by omega)) ?_
    | refine S.lss rfl rfl (decide_eq_false (by omega)) ?_
    | refine S.leq rfl rfl (decide_eq_true (by omega)) ?_
    | refine S.leq rfl rfl (decide_eq_false (by omega)) ?_
    | refine S.gtr rfl rfl (decide_eq_true (by omega)) ?_
    | refine S.gtr rfl rfl (decide_eq_false (by omega)) ?_
    | refine S.geq rfl rfl (decide_eq_true (by omega)) ?_
    | refine S.geq rfl rfl (decide_eq_false (by omega)) ?_
    | refine S.mkfn ?_
    | refine S.eqlC rfl rfl (fun _ => ?_) (fun _ => ?_)
    | refine S.neqC rfl rfl (fun _ => ?_) (fun _ => ?_)
    | refine S.lssC rfl rfl (fun _ => ?_) (fun _ => ?_)
    | refine S.leqC rfl rfl (fun _ => ?_) (fun _ => ?_)
    | refine S.gtrC rfl rfl (fun _ => ?_) (fun _ => ?_)
    | refine S.geqC rfl rfl (fun _ => ?_) (fun _ => ?_)
    | refine S.eqlSC rfl rfl (fun _ => ?_) (fun _ => ?_)
    | refine S.neqSC rfl rfl (fun _ => ?_) (fun _ => ?_)
  all_goals refine Run.ret ?_
  all_goals refine End.tmp rfl rfl ?_
  all_goals refine congrArg AV.bool ?_
  all_goals simp [cmp6, *] <;> omega
theorem fn7 (c n : Int) : Fn Try.prog 7 [.int .i32 c, .int .i64 n] (.bool (cmp6 c n)) := by
  refine Fn.of hm Try.func7 t7 (Nat.le_of_ble_eq_true rfl) ?_
  repeat' first
    | refine OpsR.cons ?_
    | refine OpsR.nil ?_
    | refine DrawR.cons rfl rfl ?_
    | refine DrawR.nil ?_
    | refine Run.seqO ?_
    | refine Run.seqW ?_
    | refine Run.seq ?_
    | refine Run.ops ?_
    | refine Run.drawn ?_
    | refine Run.block ?_
    | refine Run.exit ?_
    | refine Run.condT rfl ?_
    | refine Run.condF rfl ?_
    | refine Run.skip ?_
    | refine S.on rfl ?_
    | refine S.off rfl (by decide) ?_
    | refine S.offN rfl ?_
    | refine S.move rfl ?_
    | refine S.pick rfl rfl rfl rfl ?_
    | refine S.alloc rfl ?_
    | refine S.box rfl rfl rfl rfl ?_
    | refine S.loadP rfl rfl rfl ?_
    | refine S.loadC rfl rfl ?_
    | refine S.storeP rfl rfl rfl rfl rfl rfl (by decide) rfl ?_
    | refine S.faddrP rfl rfl ?_
    | refine S.faddrC rfl rfl ?_
    | refine S.field rfl rfl ?_
    | refine S.extract rfl rfl ?_
    | refine S.build (And.intro rfl rfl) (And.intro rfl (And.intro rfl (And.intro (by decide) rfl))) ?_
    | refine S.build (And.intro rfl rfl) (And.intro rfl (And.intro rfl (And.intro (by decide) (And.intro rfl (And.intro rfl (And.intro (by decide) rfl)))))) ?_
    | refine S.lenL rfl rfl ?_
    | refine S.lenV rfl ?_
    | refine S.lenN rfl ?_
    | refine S.lenS rfl rfl ?_
    | refine S.not rfl rfl ?_
    | refine S.binB rfl rfl rfl ?_
    | refine S.add rfl rfl (w64 (by omega) (by omega)) ?_
    | refine S.sub rfl rfl (w64 (by omega) (by omega)) ?_
    | refine S.eql rfl rfl (decide_eq_true (by omega)) ?_
    | refine S.eql rfl rfl (decide_eq_false (by omega)) ?_
    | refine S.neq rfl rfl (decide_eq_true (by omega)) ?_
    | refine S.neq rfl rfl (decide_eq_false (by omega)) ?_
    | refine S.lss rfl rfl (decide_eq_true (by omega)) ?_
    | refine S.lss rfl rfl (decide_eq_false (by omega)) ?_
    | refine S.leq rfl rfl (decide_eq_true (by omega)) ?_
    | refine S.leq rfl rfl (decide_eq_false (by omega)) ?_
    | refine S.gtr rfl rfl (decide_eq_true (by omega)) ?_
    | refine S.gtr rfl rfl (decide_eq_false (by omega)) ?_
    | refine S.geq rfl rfl (decide_eq_true (by omega)) ?_
    | refine S.geq rfl rfl (decide_eq_false (by omega)) ?_
    | refine S.mkfn ?_
    | refine S.eqlC rfl rfl (fun _ => ?_) (fun _ => ?_)
    | refine S.neqC rfl rfl (fun _ => ?_) (fun _ => ?_)
    | refine S.lssC rfl rfl (fun _ => ?_) (fun _ => ?_)
    | refine S.leqC rfl rfl (fun _ => ?_) (fun _ => ?_)
    | refine S.gtrC rfl rfl (fun _ => ?_) (fun _ => ?_)
    | refine S.geqC rfl rfl (fun _ => ?_) (fun _ => ?_)
    | refine S.eqlSC rfl rfl (fun _ => ?_) (fun _ => ?_)
    | refine S.neqSC rfl rfl (fun _ => ?_) (fun _ => ?_)
  all_goals refine Run.ret ?_
  all_goals refine End.tmp rfl rfl ?_
  all_goals refine congrArg AV.bool ?_
  all_goals simp [cmp6, *] <;> omega
end Go.Ev.T
namespace Go.Ev.T
open Go.Proofs
theorem fn8 : Fn Try.prog 8 [] (.bool true) := callC_sound hm tab_ok 1000 8 _ _ (by kernel_rfl)
theorem fn3 (c n : Int) : Fn Try.prog 3 [.int .i32 c, .int .i64 n] (.bool true) := by
  refine Fn.of hm Try.func3 t3 (Nat.le_of_ble_eq_true rfl) ?_
  repeat' first
    | refine S.call (And.intro rfl rfl) (fn6 c n) rfl ?_
    | refine S.call (And.intro rfl rfl) (fn7 c n) rfl ?_
    | refine S.call (And.intro rfl rfl) fn8 rfl ?_
    | refine S.binB (p := true) rfl rfl (by simp) ?_
    | refine OpsR.cons ?_
    | refine OpsR.nil ?_
    | refine DrawR.cons rfl rfl ?_
    | refine DrawR.nil ?_
    | refine Run.seqO ?_
    | refine Run.seqW ?_
    | refine Run.seq ?_
    | refine Run.ops ?_
    | refine Run.drawn ?_
    | refine Run.block ?_
    | refine Run.exit ?_
    | refine Run.condT rfl ?_
    | refine Run.condF rfl ?_
    | refine Run.skip ?_
    | refine S.on rfl ?_
    | refine S.off rfl (by decide) ?_
    | refine S.offN rfl ?_
    | refine S.move rfl ?_
    | refine S.pick rfl rfl rfl rfl ?_
    | refine S.alloc rfl ?_
    | refine S.box rfl rfl rfl rfl ?_
    | refine S.loadP rfl rfl rfl ?_
    | refine S.loadC rfl rfl ?_
    | refine S.storeP rfl rfl rfl rfl rfl rfl (by decide) rfl ?_
    | refine S.faddrP rfl rfl ?_
    | refine S.faddrC rfl rfl ?_
    | refine S.field rfl rfl ?_
    | refine S.extract rfl rfl ?_
    | refine S.build (And.intro rfl rfl) (And.intro rfl (And.intro rfl (And.intro (by decide) rfl))) ?_
    | refine S.build (And.intro rfl rfl) (And.intro rfl (And.intro rfl (And.intro (by decide) (And.intro rfl (And.intro rfl (And.intro (by decide) rfl)))))) ?_
    | refine S.lenL rfl rfl ?_
    | refine S.lenV rfl ?_
    | refine S.lenN rfl ?_
    | refine S.lenS rfl rfl ?_
    | refine S.not rfl rfl ?_
    | refine S.binB rfl rfl rfl ?_
    | refine S.add rfl rfl (w64 (by omega) (by omega)) ?_
    | refine S.sub rfl rfl (w64 (by omega) (by omega)) ?_
    | refine S.eql rfl rfl (decide_eq_true (by omega)) ?_
    | refine S.eql rfl rfl (decide_eq_false (by omega)) ?_
    | refine S.neq rfl rfl (decide_eq_true (by omega)) ?_
    | refine S.neq rfl rfl (decide_eq_false (by omega)) ?_
    | refine S.lss rfl rfl (decide_eq_true (by omega)) ?_
    | refine S.lss rfl rfl (decide_eq_false (by omega)) ?_
    | refine S.leq rfl rfl (decide_eq_true (by omega)) ?_
    | refine S.leq rfl rfl (decide_eq_false (by omega)) ?_
    | refine S.gtr rfl rfl (decide_eq_true (by omega)) ?_
    | refine S.gtr rfl rfl (decide_eq_false (by omega)) ?_
    | refine S.geq rfl rfl (decide_eq_true (by omega)) ?_
    | refine S.geq rfl rfl (decide_eq_false (by omega)) ?_
    | refine S.mkfn ?_
    | refine S.eqlC rfl rfl (fun _ => ?_) (fun _ => ?_)
    | refine S.neqC rfl rfl (fun _ => ?_) (fun _ => ?_)
    | refine S.lssC rfl rfl (fun _ => ?_) (fun _ => ?_)
    | refine S.leqC rfl rfl (fun _ => ?_) (fun _ => ?_)
    | refine S.gtrC rfl rfl (fun _ => ?_) (fun _ => ?_)
    | refine S.geqC rfl rfl (fun _ => ?_) (fun _ => ?_)
    | refine S.eqlSC rfl rfl (fun _ => ?_) (fun _ => ?_)
    | refine S.neqSC rfl rfl (fun _ => ?_) (fun _ => ?_)
  all_goals refine Run.ret ?_
  all_goals refine End.tmp rfl rfl rfl
end Go.Ev.T
namespace Go.Proofs.Ytfklgafihefpeaa
open Go.ChangeShapes Go.WideShapes Go.ChangeAt Go.RowKit

theorem Try.own : ownKnob Try.prog.godebug = none := by kernel_rfl
theorem Try.laidOut : laidOutB Try.prog = true := by kernel_rfl

set_option maxRecDepth 100000 in
theorem dyadOrders_lifted (os : Os) (started : os.Started) (H : Type) (enc : TypeId × Value → H) :
    ReturnsInHanded {} Try.checked os 3 .any (Rows.dyadOrdersSpec.pre6 enc Try.prog Try.f3 Rows.dyadOrdersRow.domain false) (Rows.dyadOrdersSpec.post enc Try.prog Try.f3 false true false false) := by
  refine returnsInHanded_of_change (C := Try.checked) Try.own started (by kernel_rfl) Try.func3
    (ChangeSpec.witness6 (enc := enc) (C := Try.checked) false ⟨#[], #[.int .i32 0, .int .i64 0], []⟩ 8 (by kernel_rfl) (by kernel_rfl) (by kernel_rfl) (by kernel_rfl)) ?_
  intro W base args ds gs before hval0 hW hcnd _
  have hval : ∀ (j : Nat) t v, Try.f3.params[j]? = some t → args[j]? = some v → Value.okWide Try.prog W .any base t v := hval0
  have hW' := hW
  obtain ⟨p, q, hA0, hV, rfl, hfz, hnd⟩ := hW
  have hA : DataW.TrodAll enc Try.prog W 0 (fun _ => true) true Try.f3.params.toList args.toList ds p := hA0
  rw [Try.params3] at hA hval
  obtain ⟨v0, v1, d0, d1, p0, p1, rfl, rfl, rfl, h0, h1⟩ := trodAll_two hA
  obtain ⟨rfl, rfl⟩ := trodVars_none hV
  obtain ⟨a, rfl, rfl, rfl, wa⟩ := open_int Try.underlying21 (hval 0 21 v0 rfl rfl) h0
  obtain ⟨b, rfl, rfl, rfl, wb⟩ := open_int Try.underlying3 (hval 1 3 v1 rfl rfl) h1
  clear hA0 hval0
  simp only [List.append_nil] at hW'
  refine ((Go.Ev.T.fn3 a b).2 (fun _ => False) W [.int .i32 a, .int .i64 b] (by simp) (by simp [Go.Ev.RepT, Go.Ev.RepV])).mono fun e W' ⟨v, he, hbel, hv⟩ => ?_
  subst he
  simp only [Go.Ev.RepRes, Go.Ev.RepV] at hv
  subst hv
  refine ⟨_, rfl, _, _, _, [], [], [], hW', ?_, trodAll_mk2 (shut_int Try.underlying21 wa) (shut_int Try.underlying3 wb), rfl, hbel.frame _, fun h => by cases h⟩
  exact trodAll_mk1 (shut_bool Try.underlying4 _)

theorem dyadOrders_holds : Rows.DyadOrdersSaid :=
  OpenClaim.holds_of_wide 3 Try.f3 rfl rfl rfl rfl rfl rfl rfl ⟨rfl, rfl, rfl, rfl, rfl⟩ rfl rfl rfl rfl rfl (by kernel_rfl) Try.func3 (by kernel_rfl)
    (of_decide_eq_true (by kernel_rfl)) (by unfold Func.isWrapper; first | (rw [if_pos (by decide +kernel)]; kernel_rfl) | (rw [if_neg (by decide +kernel)]; exact ⟨rfl, rfl⟩))
    (fun os started H enc _ => dyadOrders_lifted os started H enc)
#print axioms dyadOrders_holds
end Go.Proofs.Ytfklgafihefpeaa
