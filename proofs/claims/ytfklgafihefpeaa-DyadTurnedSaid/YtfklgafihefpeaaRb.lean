/- The program's functions, walked: each hands back what its plain function says. Printed by a program of mine. -/
import Derived.Test.YtfklgafihefpeaaRa
set_option linter.unusedVariables false
set_option linter.unusedSimpArgs false

set_option maxHeartbeats 1000000
namespace Go.Ev.T
open Go.Proofs Go.Sh
theorem r64 (a0 : T_whole_Int) (r : Int × Bool) (h : whole_Int_Int a0 = some r) : Fn Try.prog 64 [.agg (c_whole_Int a0)] (.tup [.int .i64 r.1, .bool r.2]) := by
 unfold whole_Int_Int at h
 refine Fn.ofS hm Try.func64 t64 (Nat.le_of_ble_eq_true rfl) ?_
 refine rs ?_
 refine ro ?_
 refine oc ?_
 refine S.box rfl rfl rfl rfl ?_
 refine oc ?_
 refine S.move rfl ?_
 refine oc ?_
 refine S.move rfl ?_
 refine oz ?_
 refine rs ?_
 refine ro ?_
 refine oc ?_
 refine S.faddrP rfl rfl ?_
 refine oc ?_
 refine S.loadP rfl rfl rfl ?_
 obtain ⟨v1, h_v1, h⟩ := bnd_some h
 refine oc ?_
 refine S.call (And.intro rfl rfl) (r73 a0.1 _ h_v1) rfl ?_
 refine oc ?_
 refine S.move rfl ?_
 refine oc ?_
 refine S.extract rfl rfl ?_
 refine oc ?_
 refine S.extract rfl rfl ?_
 refine oc ?_
 refine S.move rfl ?_
 refine oc ?_
 refine S.move rfl ?_
 refine oz ?_
 refine rs ?_
 refine Run.block ?_
 refine rs ?_
 refine ro ?_
 refine oc ?_
 refine S.move rfl ?_
 refine oc ?_
 refine S.not rfl rfl ?_
 refine oc ?_
 refine S.move rfl ?_
 obtain ⟨x2, hx, h⟩ := lt_some h
 refine OpsR.splitAt 3 (J := fun st => ∃ g1 : Nat, Is [(1, .ptr 1 g1 0), (4, .int .u64 v1.1), (18, .bool x2)] [(1, g1, some (.box [.sl (List.map c_u32 a0.1), .bool a0.2]))] st) ?_ ?_
 ·replace h := hx
  rcases itep h with ⟨hc, h⟩ | ⟨hc, h⟩
  ·refine OpsR.setB (t := 15) rfl hc ?_
   refine oc ?_
   refine S.off rfl (by decide) ?_
   refine oc ?_
   refine S.off rfl (by decide) ?_
   refine oc ?_
   refine S.pick rfl rfl rfl rfl ?_
   obtain rfl := some_inj h
   refine oz ?_
   exact ⟨_, ⟨rfl, rfl, rfl, trivial⟩, ⟨rfl, trivial⟩⟩
  ·refine OpsR.setB (t := 15) rfl hc ?_
   refine oc ?_
   refine S.on rfl ?_
   refine S.move rfl ?_
   refine oc ?_
   refine S.on rfl ?_
   refine S.gtr rfl rfl rfl ?_
   refine oc ?_
   refine S.pick rfl rfl rfl rfl ?_
   obtain rfl := some_inj h
   refine oz ?_
   exact ⟨_, ⟨rfl, rfl, rfl, trivial⟩, ⟨rfl, trivial⟩⟩
 ·rintro st ⟨g1, hI⟩
  have hI : Is _ _ _ := hI
  revert hI
  refine fun hI => hI.elim ?_
  intro e H
  refine oc ?_
  refine S.move rfl ?_
  obtain ⟨x4, hx, h⟩ := bnd_some h
  refine OpsR.splitAt 8 (J := fun st => ∃ g1 : Nat, Is [(1, .ptr 1 g1 0), (4, .int .u64 v1.1), (27, .bool x4)] [(1, g1, some (.box [.sl (List.map c_u32 a0.1), .bool a0.2]))] st) ?_ ?_
  ·replace h := hx
   rcases ite_some h with ⟨hc, h⟩ | ⟨hc, h⟩
   ·refine OpsR.setB (t := 19) rfl hc ?_
    refine oc ?_
    refine S.off rfl (by decide) ?_
    refine oc ?_
    refine S.off rfl (by decide) ?_
    refine oc ?_
    refine S.off rfl (by decide) ?_
    refine oc ?_
    refine S.offN rfl ?_
    refine oc ?_
    refine S.offN rfl ?_
    refine oc ?_
    refine S.offN rfl ?_
    refine oc ?_
    refine S.off rfl (by decide) ?_
    refine oc ?_
    refine S.pick rfl rfl rfl rfl ?_
    obtain rfl := some_inj h
    refine oz ?_
    exact ⟨_, ⟨rfl, rfl, rfl, trivial⟩, ⟨rfl, trivial⟩⟩
   ·refine OpsR.setB (t := 19) rfl hc ?_
    refine oc ?_
    refine S.on rfl ?_
    refine S.move rfl ?_
    refine oc ?_
    refine S.on rfl ?_
    refine S.eql rfl rfl rfl ?_
    refine oc ?_
    refine S.on rfl ?_
    refine S.move rfl ?_
    obtain ⟨x3, hx, h⟩ := lt_some h
    refine OpsR.splitAt 4 (J := fun st => ∃ g1 : Nat, Is [(1, .ptr 1 g1 0), (4, .int .u64 v1.1), (19, .bool false), (26, .bool x3)] [(1, g1, some (.box [.sl (List.map c_u32 a0.1), .bool a0.2]))] st) ?_ ?_
    ·replace h := hx
     rcases itep h with ⟨hc, h⟩ | ⟨hc, h⟩
     ·refine OpsR.setB (t := 22) rfl hc ?_
      refine oc ?_
      refine S.on rfl ?_
      refine S.faddrP rfl rfl ?_
      refine oc ?_
      refine S.on rfl ?_
      refine S.loadP rfl rfl rfl ?_
      refine oc ?_
      refine S.on rfl ?_
      refine S.not rfl rfl ?_
      refine oc ?_
      refine S.on rfl ?_
      refine S.pick rfl rfl rfl rfl ?_
      obtain rfl := some_inj h
      refine oz ?_
      exact ⟨_, ⟨rfl, rfl, rfl, rfl, trivial⟩, ⟨rfl, trivial⟩⟩
     ·refine OpsR.setB (t := 22) rfl hc ?_
      refine oc ?_
      refine S.off rfl (by decide) ?_
      refine oc ?_
      refine S.off rfl (by decide) ?_
      refine oc ?_
      refine S.off rfl (by decide) ?_
      refine oc ?_
      refine S.on rfl ?_
      refine S.pick rfl rfl rfl rfl ?_
      obtain rfl := some_inj h
      refine oz ?_
      exact ⟨_, ⟨rfl, rfl, rfl, rfl, trivial⟩, ⟨rfl, trivial⟩⟩
    ·rintro st ⟨g1, hI⟩
     have hI : Is _ _ _ := hI
     revert hI
     refine fun hI => hI.elim ?_
     intro e H
     refine oc ?_
     refine S.pick rfl rfl rfl rfl ?_
     obtain rfl := some_inj h
     refine oz ?_
     exact ⟨_, ⟨rfl, rfl, rfl, trivial⟩, ⟨rfl, trivial⟩⟩
  ·rintro st ⟨g1, hI⟩
   have hI : Is _ _ _ := hI
   revert hI
   refine fun hI => hI.elim ?_
   intro e H
   refine oc ?_
   refine S.move rfl ?_
   refine oz ?_
   rcases ite_some h with ⟨hc, h⟩ | ⟨hc, h⟩
   ·refine Run.setB (t := 12) rfl hc ?_
    refine Run.condT rfl ?_
    refine rs ?_
    refine ro ?_
    refine oc ?_
    refine S.move rfl ?_
    refine oc ?_
    refine S.move rfl ?_
    refine oz ?_
    refine Run.ret ?_
    obtain rfl := some_inj h
    exact FinS.fin (End.all rfl)
   ·refine Run.setB (t := 12) rfl hc ?_
    refine Run.condF rfl ?_
    refine rs ?_
    refine ro ?_
    refine oc ?_
    refine S.faddrP rfl rfl ?_
    refine oc ?_
    refine S.loadP rfl rfl rfl ?_
    refine oc ?_
    refine S.move rfl ?_
    refine oz ?_
    rcases ite_some h with ⟨hc, h⟩ | ⟨hc, h⟩
    ·refine Run.setB (t := 28) rfl hc ?_
     refine Run.condT rfl ?_
     refine rs ?_
     refine ro ?_
     refine oc ?_
     refine S.move rfl ?_
     refine oc ?_
     refine S.sub rfl rfl rfl ?_
     refine oc ?_
     refine S.toInt rfl rfl ?_
     refine oc ?_
     refine S.neg rfl rfl ?_
     refine oc ?_
     refine S.sub rfl rfl rfl ?_
     refine oc ?_
     refine S.move rfl ?_
     refine oc ?_
     refine S.move rfl ?_
     refine oz ?_
     refine Run.cutJ (J := fun st => Is [(2, .int .i64 (wrap .i64 ((wrap .i64 (0 - (wrap .i64 (wrap .u64 (v1.1 - 1))))) - 1))), (3, .bool true)] [] st) ⟨⟨rfl, rfl, trivial⟩, trivial⟩ ?_
     rintro st hI
     have hI : Is _ _ _ := hI
     revert hI
     refine fun hI => hI.elim ?_
     intro e H
     refine Run.ret ?_
     obtain rfl := some_inj h
     exact FinS.fin (End.all rfl)
    ·refine Run.setB (t := 28) rfl hc ?_
     refine Run.condF rfl ?_
     refine Run.skip ?_
     refine rs ?_
     refine ro ?_
     refine oc ?_
     refine S.move rfl ?_
     refine oc ?_
     refine S.toInt rfl rfl ?_
     refine oc ?_
     refine S.move rfl ?_
     refine oc ?_
     refine S.move rfl ?_
     refine oz ?_
     refine Run.ret ?_
     obtain rfl := some_inj h
     exact FinS.fin (End.all rfl)

theorem r44 (a0 : T_ratio_Rat) (r : Int × Bool) (h : ratio_Rat_Int a0 = some r) : Fn Try.prog 44 [.agg (c_ratio_Rat a0)] (.tup [.int .i64 r.1, .bool r.2]) := by
 unfold ratio_Rat_Int at h
 refine Fn.ofS hm Try.func44 t44 (Nat.le_of_ble_eq_true rfl) ?_
 refine rs ?_
 refine ro ?_
 refine oc ?_
 refine S.box rfl rfl rfl rfl ?_
 refine oc ?_
 refine S.move rfl ?_
 refine oc ?_
 refine S.move rfl ?_
 refine oz ?_
 refine rs ?_
 refine rs ?_
 refine ro ?_
 refine oc ?_
 refine S.loadP rfl rfl rfl ?_
 obtain ⟨v1, h_v1, h⟩ := bnd_some h
 refine oc ?_
 refine S.call (And.intro rfl rfl) (r63 a0 _ h_v1) rfl ?_
 refine oc ?_
 refine S.not rfl rfl ?_
 refine oz ?_
 rcases ite_some h with ⟨hc, h⟩ | ⟨hc, h⟩
 ·refine Run.setB (t := 6) rfl hc ?_
  refine Run.condT rfl ?_
  refine rs ?_
  refine ro ?_
  refine oc ?_
  refine S.move rfl ?_
  refine oc ?_
  refine S.move rfl ?_
  refine oz ?_
  refine Run.ret ?_
  obtain rfl := some_inj h
  exact FinS.fin (End.all rfl)
 ·refine Run.setB (t := 6) rfl hc ?_
  refine Run.condF rfl ?_
  refine Run.skip ?_
  refine rs ?_
  refine ro ?_
  refine oc ?_
  refine S.faddrP rfl rfl ?_
  refine oc ?_
  refine S.loadP rfl rfl rfl ?_
  obtain ⟨v2, h_v2, h⟩ := bnd_some h
  refine oc ?_
  refine S.call (And.intro rfl rfl) (r64 a0.1 _ h_v2) rfl ?_
  refine oc ?_
  refine S.extract rfl rfl ?_
  refine oc ?_
  refine S.extract rfl rfl ?_
  refine oc ?_
  refine S.move rfl ?_
  refine oc ?_
  refine S.move rfl ?_
  refine oz ?_
  refine Run.cutJ (J := fun st => Is [(2, .int .i64 v2.1), (3, .bool v2.2)] [] st) ⟨⟨rfl, rfl, trivial⟩, trivial⟩ ?_
  rintro st hI
  have hI : Is _ _ _ := hI
  revert hI
  refine fun hI => hI.elim ?_
  intro e H
  refine Run.ret ?_
  obtain rfl := some_inj h
  exact FinS.fin (End.all rfl)

theorem r23 (a0 : Int) (a1 : T_ratio_Rat) (a2 : T_ratio_Rat) (r : T_ratio_Rat × Int) (h : dyad_judge a0 a1 a2 = some r) : Fn Try.prog 23 [.int .i32 a0, .agg (c_ratio_Rat a1), .agg (c_ratio_Rat a2)] (.tup [.agg (c_ratio_Rat r.1), .int .i64 r.2]) := by
 unfold dyad_judge at h
 refine Fn.ofS hm Try.func23 t23 (Nat.le_of_ble_eq_true rfl) ?_
 refine rs ?_
 refine ro ?_
 refine oc ?_
 refine S.box rfl rfl rfl rfl ?_
 refine oc ?_
 refine S.box rfl rfl rfl rfl ?_
 refine oc ?_
 refine S.alloc rfl ?_
 refine oc ?_
 refine S.move rfl ?_
 refine oz ?_
 refine rs ?_
 refine ro ?_
 refine oc ?_
 refine S.loadP rfl rfl rfl ?_
 obtain ⟨v1, h_v1, h⟩ := bnd_some h
 refine oc ?_
 refine S.call (And.intro rfl rfl) (r44 a1 _ h_v1) rfl ?_
 refine oc ?_
 refine S.move rfl ?_
 refine oc ?_
 refine S.extract rfl rfl ?_
 refine oc ?_
 refine S.extract rfl rfl ?_
 refine oc ?_
 refine S.move rfl ?_
 refine oc ?_
 refine S.move rfl ?_
 refine oz ?_
 refine Run.cutJ (J := fun st => ∃ g5 g6 : Nat, Is [(0, .int .i32 a0), (5, .ptr 5 g5 0), (6, .ptr 6 g6 0), (8, .int .i64 v1.1), (9, .bool v1.2)] [(5, g5, some (.box [.sl (List.map c_u32 a2.1.1), .bool a2.1.2, .sl (List.map c_u32 a2.2)])), (6, g6, some (.box [.nil, .bool false, .nil]))] st) ⟨_, _, ⟨rfl, rfl, rfl, rfl, rfl, trivial⟩, ⟨rfl, rfl, trivial⟩⟩ ?_
 rintro st ⟨g5, g6, hI⟩
 have hI : Is _ _ _ := hI
 revert hI
 refine fun hI => hI.elim ?_
 intro e H
 refine rs ?_
 refine ro ?_
 refine oc ?_
 refine S.loadP rfl rfl rfl ?_
 obtain ⟨v2, h_v2, h⟩ := bnd_some h
 refine oc ?_
 refine S.call (And.intro rfl rfl) (r44 a2 _ h_v2) rfl ?_
 refine oc ?_
 refine S.move rfl ?_
 refine oc ?_
 refine S.extract rfl rfl ?_
 refine oc ?_
 refine S.extract rfl rfl ?_
 refine oc ?_
 refine S.move rfl ?_
 refine oc ?_
 refine S.move rfl ?_
 refine oz ?_
 refine rs ?_
 refine rs ?_
 refine ro ?_
 refine oc ?_
 refine S.move rfl ?_
 refine oc ?_
 refine S.not rfl rfl ?_
 refine oc ?_
 refine S.move rfl ?_
 obtain ⟨x3, hx, h⟩ := lt_some h
 refine OpsR.splitAt 3 (J := fun st => ∃ g6 : Nat, Is [(0, .int .i32 a0), (6, .ptr 6 g6 0), (8, .int .i64 v1.1), (10, .int .i64 v2.1), (27, .bool x3)] [(6, g6, some (.box [.nil, .bool false, .nil]))] st) ?_ ?_
 ·replace h := hx
  rcases itep h with ⟨hc, h⟩ | ⟨hc, h⟩
  ·refine OpsR.setB (t := 24) rfl hc ?_
   refine oc ?_
   refine S.off rfl (by decide) ?_
   refine oc ?_
   refine S.off rfl (by decide) ?_
   refine oc ?_
   refine S.pick rfl rfl rfl rfl ?_
   obtain rfl := some_inj h
   refine oz ?_
   exact ⟨_, ⟨rfl, rfl, rfl, rfl, rfl, trivial⟩, ⟨rfl, trivial⟩⟩
  ·refine OpsR.setB (t := 24) rfl hc ?_
   refine oc ?_
   refine S.on rfl ?_
   refine S.move rfl ?_
   refine oc ?_
   refine S.on rfl ?_
   refine S.not rfl rfl ?_
   refine oc ?_
   refine S.pick rfl rfl rfl rfl ?_
   obtain rfl := some_inj h
   refine oz ?_
   exact ⟨_, ⟨rfl, rfl, rfl, rfl, rfl, trivial⟩, ⟨rfl, trivial⟩⟩
 ·rintro st ⟨g6, hI⟩
  have hI : Is _ _ _ := hI
  revert hI
  refine fun hI => hI.elim ?_
  intro e H
  refine oc ?_
  refine S.move rfl ?_
  obtain ⟨x4, hx, h⟩ := lt_some h
  refine OpsR.splitAt 3 (J := fun st => ∃ g6 : Nat, Is [(0, .int .i32 a0), (6, .ptr 6 g6 0), (8, .int .i64 v1.1), (10, .int .i64 v2.1), (31, .bool x4)] [(6, g6, some (.box [.nil, .bool false, .nil]))] st) ?_ ?_
  ·replace h := hx
   rcases itep h with ⟨hc, h⟩ | ⟨hc, h⟩
   ·refine OpsR.setB (t := 28) rfl hc ?_
    refine oc ?_
    refine S.off rfl (by decide) ?_
    refine oc ?_
    refine S.off rfl (by decide) ?_
    refine oc ?_
    refine S.pick rfl rfl rfl rfl ?_
    obtain rfl := some_inj h
    refine oz ?_
    exact ⟨_, ⟨rfl, rfl, rfl, rfl, rfl, trivial⟩, ⟨rfl, trivial⟩⟩
   ·refine OpsR.setB (t := 28) rfl hc ?_
    refine oc ?_
    refine S.on rfl ?_
    refine S.move rfl ?_
    refine oc ?_
    refine S.on rfl ?_
    refine S.lss rfl rfl rfl ?_
    refine oc ?_
    refine S.pick rfl rfl rfl rfl ?_
    obtain rfl := some_inj h
    refine oz ?_
    exact ⟨_, ⟨rfl, rfl, rfl, rfl, rfl, trivial⟩, ⟨rfl, trivial⟩⟩
  ·rintro st ⟨g6, hI⟩
   have hI : Is _ _ _ := hI
   revert hI
   refine fun hI => hI.elim ?_
   intro e H
   refine oc ?_
   refine S.move rfl ?_
   obtain ⟨x5, hx, h⟩ := lt_some h
   refine OpsR.splitAt 3 (J := fun st => ∃ g6 : Nat, Is [(0, .int .i32 a0), (6, .ptr 6 g6 0), (8, .int .i64 v1.1), (10, .int .i64 v2.1), (35, .bool x5)] [(6, g6, some (.box [.nil, .bool false, .nil]))] st) ?_ ?_
   ·replace h := hx
    rcases itep h with ⟨hc, h⟩ | ⟨hc, h⟩
    ·refine OpsR.setB (t := 32) rfl hc ?_
     refine oc ?_
     refine S.off rfl (by decide) ?_
     refine oc ?_
     refine S.off rfl (by decide) ?_
     refine oc ?_
     refine S.pick rfl rfl rfl rfl ?_
     obtain rfl := some_inj h
     refine oz ?_
     exact ⟨_, ⟨rfl, rfl, rfl, rfl, rfl, trivial⟩, ⟨rfl, trivial⟩⟩
    ·refine OpsR.setB (t := 32) rfl hc ?_
     refine oc ?_
     refine S.on rfl ?_
     refine S.move rfl ?_
     refine oc ?_
     refine S.on rfl ?_
     refine S.gtr rfl rfl rfl ?_
     refine oc ?_
     refine S.pick rfl rfl rfl rfl ?_
     obtain rfl := some_inj h
     refine oz ?_
     exact ⟨_, ⟨rfl, rfl, rfl, rfl, rfl, trivial⟩, ⟨rfl, trivial⟩⟩
   ·rintro st ⟨g6, hI⟩
    have hI : Is _ _ _ := hI
    revert hI
    refine fun hI => hI.elim ?_
    intro e H
    refine oc ?_
    refine S.move rfl ?_
    obtain ⟨x6, hx, h⟩ := lt_some h
    refine OpsR.splitAt 3 (J := fun st => ∃ g6 : Nat, Is [(0, .int .i32 a0), (6, .ptr 6 g6 0), (8, .int .i64 v1.1), (10, .int .i64 v2.1), (39, .bool x6)] [(6, g6, some (.box [.nil, .bool false, .nil]))] st) ?_ ?_
    ·replace h := hx
     rcases itep h with ⟨hc, h⟩ | ⟨hc, h⟩
     ·refine OpsR.setB (t := 36) rfl hc ?_
      refine oc ?_
      refine S.off rfl (by decide) ?_
      refine oc ?_
      refine S.off rfl (by decide) ?_
      refine oc ?_
      refine S.pick rfl rfl rfl rfl ?_
      obtain rfl := some_inj h
      refine oz ?_
      exact ⟨_, ⟨rfl, rfl, rfl, rfl, rfl, trivial⟩, ⟨rfl, trivial⟩⟩
     ·refine OpsR.setB (t := 36) rfl hc ?_
      refine oc ?_
      refine S.on rfl ?_
      refine S.move rfl ?_
      refine oc ?_
      refine S.on rfl ?_
      refine S.lss rfl rfl rfl ?_
      refine oc ?_
      refine S.pick rfl rfl rfl rfl ?_
      obtain rfl := some_inj h
      refine oz ?_
      exact ⟨_, ⟨rfl, rfl, rfl, rfl, rfl, trivial⟩, ⟨rfl, trivial⟩⟩
    ·rintro st ⟨g6, hI⟩
     have hI : Is _ _ _ := hI
     revert hI
     refine fun hI => hI.elim ?_
     intro e H
     refine oc ?_
     refine S.move rfl ?_
     obtain ⟨x7, hx, h⟩ := lt_some h
     refine OpsR.splitAt 3 (J := fun st => ∃ g6 : Nat, Is [(0, .int .i32 a0), (6, .ptr 6 g6 0), (8, .int .i64 v1.1), (10, .int .i64 v2.1), (43, .bool x7)] [(6, g6, some (.box [.nil, .bool false, .nil]))] st) ?_ ?_
     ·replace h := hx
      rcases itep h with ⟨hc, h⟩ | ⟨hc, h⟩
      ·refine OpsR.setB (t := 40) rfl hc ?_
       refine oc ?_
       refine S.off rfl (by decide) ?_
       refine oc ?_
       refine S.off rfl (by decide) ?_
       refine oc ?_
       refine S.pick rfl rfl rfl rfl ?_
       obtain rfl := some_inj h
       refine oz ?_
       exact ⟨_, ⟨rfl, rfl, rfl, rfl, rfl, trivial⟩, ⟨rfl, trivial⟩⟩
      ·refine OpsR.setB (t := 40) rfl hc ?_
       refine oc ?_
       refine S.on rfl ?_
       refine S.move rfl ?_
       refine oc ?_
       refine S.on rfl ?_
       refine S.gtr rfl rfl rfl ?_
       refine oc ?_
       refine S.pick rfl rfl rfl rfl ?_
       obtain rfl := some_inj h
       refine oz ?_
       exact ⟨_, ⟨rfl, rfl, rfl, rfl, rfl, trivial⟩, ⟨rfl, trivial⟩⟩
     ·rintro st ⟨g6, hI⟩
      have hI : Is _ _ _ := hI
      revert hI
      refine fun hI => hI.elim ?_
      intro e H
      refine oz ?_
      rcases ite_some h with ⟨hc, h⟩ | ⟨hc, h⟩
      ·refine Run.setB (t := 43) rfl hc ?_
       refine Run.condT rfl ?_
       refine rs ?_
       refine ro ?_
       refine oc ?_
       refine S.build (And.intro rfl rfl) rfl ?_
       refine oc ?_
       refine S.storeP rfl rfl rfl rfl rfl rfl (Nat.le_of_ble_eq_true rfl) rfl ?_
       refine oc ?_
       refine S.move rfl ?_
       refine oz ?_
       refine Run.ret ?_
       obtain rfl := some_inj h
       exact FinS.fin (End.all (And.intro rfl rfl))
      ·refine Run.setB (t := 43) rfl hc ?_
       refine Run.condF rfl ?_
       refine Run.skip ?_
       refine rs ?_
       refine rs ?_
       refine ro ?_
       refine oc ?_
       refine S.move rfl ?_
       refine oz ?_
       refine Run.block ?_
       refine rs ?_
       refine ro ?_
       refine oc ?_
       refine S.eql rfl rfl rfl ?_
       refine oc ?_
       refine S.move rfl ?_
       refine oz ?_
       rcases ite_some h with ⟨hc, h⟩ | ⟨hc, h⟩
       ·refine Run.setB (t := 46) rfl hc ?_
        refine Run.condT rfl ?_
        refine rs ?_
        refine ro ?_
        refine oc ?_
        refine S.move rfl ?_
        refine oc ?_
        refine S.move rfl ?_
        refine oc ?_
        refine S.add rfl rfl rfl ?_
        refine oc ?_
        refine S.eql rfl rfl rfl ?_
        obtain ⟨v8, h_v8, h⟩ := bnd_some h
        refine oc ?_
        refine S.call (And.intro rfl rfl) (r21 (decide ((wrap .i64 (v1.1 + v2.1)) = 2)) _ h_v8) rfl ?_
        refine oc ?_
        refine S.storeP rfl rfl rfl rfl rfl rfl (Nat.le_of_ble_eq_true rfl) rfl ?_
        refine oc ?_
        refine S.move rfl ?_
        refine oz ?_
        refine Run.ret ?_
        obtain rfl := some_inj h
        exact FinS.fin (End.all (And.intro rfl rfl))
       ·refine Run.setB (t := 46) rfl hc ?_
        refine Run.condF rfl ?_
        refine rs ?_
        refine ro ?_
        refine oc ?_
        refine S.eql rfl rfl rfl ?_
        refine oc ?_
        refine S.move rfl ?_
        refine oz ?_
        rcases ite_some h with ⟨hc, h⟩ | ⟨hc, h⟩
        ·refine Run.setB (t := 53) rfl hc ?_
         refine Run.condT rfl ?_
         refine rs ?_
         refine ro ?_
         refine oc ?_
         refine S.move rfl ?_
         refine oc ?_
         refine S.move rfl ?_
         refine oc ?_
         refine S.add rfl rfl rfl ?_
         refine oc ?_
         refine S.gtr rfl rfl rfl ?_
         obtain ⟨v9, h_v9, h⟩ := bnd_some h
         refine oc ?_
         refine S.call (And.intro rfl rfl) (r21 (decide (0 < (wrap .i64 (v1.1 + v2.1)))) _ h_v9) rfl ?_
         refine oc ?_
         refine S.storeP rfl rfl rfl rfl rfl rfl (Nat.le_of_ble_eq_true rfl) rfl ?_
         refine oc ?_
         refine S.move rfl ?_
         refine oz ?_
         refine Run.cutJ (J := fun st => ∃ g6 : Nat, Is [(6, .ptr 6 g6 0), (7, .int .i64 0)] [(6, g6, some (.box [.sl (List.map c_u32 v9.1.1), .bool v9.1.2, .sl (List.map c_u32 v9.2)]))] st) ⟨_, ⟨rfl, rfl, trivial⟩, ⟨rfl, trivial⟩⟩ ?_
         rintro st ⟨g6, hI⟩
         have hI : Is _ _ _ := hI
         revert hI
         refine fun hI => hI.elim ?_
         intro e H
         refine Run.ret ?_
         obtain rfl := some_inj h
         exact FinS.fin (End.all (And.intro rfl rfl))
        ·refine Run.setB (t := 53) rfl hc ?_
         refine Run.condF rfl ?_
         refine rs ?_
         refine ro ?_
         refine oc ?_
         refine S.eql rfl rfl rfl ?_
         refine oc ?_
         refine S.move rfl ?_
         refine oz ?_
         rcases ite_some h with ⟨hc, h⟩ | ⟨hc, h⟩
         ·refine Run.setB (t := 60) rfl hc ?_
          refine Run.condT rfl ?_
          refine rs ?_
          refine ro ?_
          refine oc ?_
          refine S.move rfl ?_
          refine oc ?_
          refine S.move rfl ?_
          refine oc ?_
          refine S.add rfl rfl rfl ?_
          refine oc ?_
          refine S.lss rfl rfl rfl ?_
          obtain ⟨v10, h_v10, h⟩ := bnd_some h
          refine oc ?_
          refine S.call (And.intro rfl rfl) (r21 (decide ((wrap .i64 (v1.1 + v2.1)) < 2)) _ h_v10) rfl ?_
          refine oc ?_
          refine S.storeP rfl rfl rfl rfl rfl rfl (Nat.le_of_ble_eq_true rfl) rfl ?_
          refine oc ?_
          refine S.move rfl ?_
          refine oz ?_
          refine Run.cutJ (J := fun st => ∃ g6 : Nat, Is [(6, .ptr 6 g6 0), (7, .int .i64 0)] [(6, g6, some (.box [.sl (List.map c_u32 v10.1.1), .bool v10.1.2, .sl (List.map c_u32 v10.2)]))] st) ⟨_, ⟨rfl, rfl, trivial⟩, ⟨rfl, trivial⟩⟩ ?_
          rintro st ⟨g6, hI⟩
          have hI : Is _ _ _ := hI
          revert hI
          refine fun hI => hI.elim ?_
          intro e H
          refine Run.ret ?_
          obtain rfl := some_inj h
          exact FinS.fin (End.all (And.intro rfl rfl))
         ·refine Run.setB (t := 60) rfl hc ?_
          refine Run.condF rfl ?_
          refine Run.skip ?_
          refine rs ?_
          refine ro ?_
          refine oc ?_
          refine S.move rfl ?_
          refine oc ?_
          refine S.move rfl ?_
          refine oc ?_
          refine S.add rfl rfl rfl ?_
          refine oc ?_
          refine S.eql rfl rfl rfl ?_
          obtain ⟨v11, h_v11, h⟩ := bnd_some h
          refine oc ?_
          refine S.call (And.intro rfl rfl) (r21 (decide ((wrap .i64 (v1.1 + v2.1)) = 0)) _ h_v11) rfl ?_
          refine oc ?_
          refine S.storeP rfl rfl rfl rfl rfl rfl (Nat.le_of_ble_eq_true rfl) rfl ?_
          refine oc ?_
          refine S.move rfl ?_
          refine oz ?_
          refine Run.cutJ (J := fun st => ∃ g6 : Nat, Is [(6, .ptr 6 g6 0), (7, .int .i64 0)] [(6, g6, some (.box [.sl (List.map c_u32 v11.1.1), .bool v11.1.2, .sl (List.map c_u32 v11.2)]))] st) ⟨_, ⟨rfl, rfl, trivial⟩, ⟨rfl, trivial⟩⟩ ?_
          rintro st ⟨g6, hI⟩
          have hI : Is _ _ _ := hI
          revert hI
          refine fun hI => hI.elim ?_
          intro e H
          refine Run.ret ?_
          obtain rfl := some_inj h
          exact FinS.fin (End.all (And.intro rfl rfl))

theorem r24 (a0 : Int) (r : Bool) (h : dyad_reckons a0 = some r) : Fn Try.prog 24 [.int .i32 a0] (.bool r) := by
 unfold dyad_reckons at h
 refine Fn.ofS hm Try.func24 t24 (Nat.le_of_ble_eq_true rfl) ?_
 refine rs ?_
 refine ro ?_
 refine oc ?_
 refine S.move rfl ?_
 refine oz ?_
 refine rs ?_
 refine rs ?_
 refine ro ?_
 refine oc ?_
 refine S.move rfl ?_
 refine oz ?_
 refine Run.block ?_
 refine rs ?_
 obtain ⟨x1, hx, h⟩ := lt_some h
 refine Run.joinG (X := (XOne .normal (fun (x : Bool) (st : St) => Is [(4, .bool x)] [] st))) (x := x1) ?_ ?_
 ·replace h := hx
  refine rs ?_
  refine ro ?_
  refine oc ?_
  refine S.eql rfl rfl rfl ?_
  refine oc ?_
  refine S.move rfl ?_
  refine oz ?_
  rcases itep h with ⟨hc, h⟩ | ⟨hc, h⟩
  ·refine Run.setB (t := 4) rfl hc ?_
   refine Run.condT rfl ?_
   refine Run.skip ?_
   obtain rfl := some_inj h
   refine JP.mk ?_
   exact Leaf.done (XOne.mk ⟨⟨rfl, trivial⟩, trivial⟩)
  ·refine Run.setB (t := 4) rfl hc ?_
   refine Run.condF rfl ?_
   refine rs ?_
   refine ro ?_
   refine oc ?_
   refine S.eql rfl rfl rfl ?_
   refine oc ?_
   refine S.move rfl ?_
   refine oz ?_
   rcases itep h with ⟨hc, h⟩ | ⟨hc, h⟩
   ·refine Run.setB (t := 4) rfl hc ?_
    refine Run.condT rfl ?_
    refine Run.skip ?_
    obtain rfl := some_inj h
    refine JP.mk ?_
    exact Leaf.done (XOne.mk ⟨⟨rfl, trivial⟩, trivial⟩)
   ·refine Run.setB (t := 4) rfl hc ?_
    refine Run.condF rfl ?_
    refine rs ?_
    refine ro ?_
    refine oc ?_
    refine S.eql rfl rfl rfl ?_
    refine oc ?_
    refine S.move rfl ?_
    refine oz ?_
    rcases itep h with ⟨hc, h⟩ | ⟨hc, h⟩
    ·refine Run.setB (t := 4) rfl hc ?_
     refine Run.condT rfl ?_
     refine Run.skip ?_
     obtain rfl := some_inj h
     refine JP.mk ?_
     exact Leaf.done (XOne.mk ⟨⟨rfl, trivial⟩, trivial⟩)
    ·refine Run.setB (t := 4) rfl hc ?_
     refine Run.condF rfl ?_
     refine rs ?_
     refine ro ?_
     refine oc ?_
     refine S.eql rfl rfl rfl ?_
     refine oc ?_
     refine S.move rfl ?_
     refine oz ?_
     refine Run.cutJ (J := fun st => Is [(3, .int .i32 a0), (4, .bool (decide (a0 = 247)))] [] st) ⟨⟨rfl, rfl, trivial⟩, trivial⟩ ?_
     rintro st hI
     have hI : Is _ _ _ := hI
     revert hI
     refine fun hI => hI.elim ?_
     intro e H
     rcases itep h with ⟨hc, h⟩ | ⟨hc, h⟩
     ·refine Run.setB (t := 4) rfl hc ?_
      refine Run.condT rfl ?_
      refine Run.skip ?_
      obtain rfl := some_inj h
      refine JP.mk ?_
      exact Leaf.done (XOne.mk ⟨⟨rfl, trivial⟩, trivial⟩)
     ·refine Run.setB (t := 4) rfl hc ?_
      refine Run.condF rfl ?_
      refine rs ?_
      refine ro ?_
      refine oc ?_
      refine S.eql rfl rfl rfl ?_
      refine oc ?_
      refine S.move rfl ?_
      refine oz ?_
      rcases itep h with ⟨hc, h⟩ | ⟨hc, h⟩
      ·refine Run.setB (t := 4) rfl hc ?_
       refine Run.condT rfl ?_
       refine Run.skip ?_
       obtain rfl := some_inj h
       refine JP.mk ?_
       exact Leaf.done (XOne.mk ⟨⟨rfl, trivial⟩, trivial⟩)
      ·refine Run.setB (t := 4) rfl hc ?_
       refine Run.condF rfl ?_
       refine rs ?_
       refine ro ?_
       refine oc ?_
       refine S.eql rfl rfl rfl ?_
       refine oc ?_
       refine S.move rfl ?_
       refine oz ?_
       rcases itep h with ⟨hc, h⟩ | ⟨hc, h⟩
       ·refine Run.setB (t := 4) rfl hc ?_
        refine Run.condT rfl ?_
        refine Run.skip ?_
        obtain rfl := some_inj h
        refine JP.mk ?_
        exact Leaf.done (XOne.mk ⟨⟨rfl, trivial⟩, trivial⟩)
       ·refine Run.setB (t := 4) rfl hc ?_
        refine Run.condF rfl ?_
        refine rs ?_
        refine ro ?_
        refine oc ?_
        refine S.eql rfl rfl rfl ?_
        refine oc ?_
        refine S.move rfl ?_
        refine oz ?_
        rcases itep h with ⟨hc, h⟩ | ⟨hc, h⟩
        ·refine Run.setB (t := 4) rfl hc ?_
         refine Run.condT rfl ?_
         refine Run.skip ?_
         obtain rfl := some_inj h
         refine JP.mk ?_
         exact Leaf.done (XOne.mk ⟨⟨rfl, trivial⟩, trivial⟩)
        ·refine Run.setB (t := 4) rfl hc ?_
         refine Run.condF rfl ?_
         refine rs ?_
         refine ro ?_
         refine oc ?_
         refine S.eql rfl rfl rfl ?_
         refine oc ?_
         refine S.move rfl ?_
         refine oz ?_
         rcases itep h with ⟨hc, h⟩ | ⟨hc, h⟩
         ·refine Run.setB (t := 4) rfl hc ?_
          refine Run.condT rfl ?_
          refine Run.skip ?_
          obtain rfl := some_inj h
          refine JP.mk ?_
          exact Leaf.done (XOne.mk ⟨⟨rfl, trivial⟩, trivial⟩)
         ·refine Run.setB (t := 4) rfl hc ?_
          refine Run.condF rfl ?_
          refine rs ?_
          refine ro ?_
          refine oc ?_
          refine S.eql rfl rfl rfl ?_
          refine oc ?_
          refine S.move rfl ?_
          refine oz ?_
          refine Run.cutJ (J := fun st => Is [(3, .int .i32 a0), (4, .bool (decide (a0 = 33)))] [] st) ⟨⟨rfl, rfl, trivial⟩, trivial⟩ ?_
          rintro st hI
          have hI : Is _ _ _ := hI
          revert hI
          refine fun hI => hI.elim ?_
          intro e H
          rcases itep h with ⟨hc, h⟩ | ⟨hc, h⟩
          ·refine Run.setB (t := 4) rfl hc ?_
           refine Run.condT rfl ?_
           refine Run.skip ?_
           obtain rfl := some_inj h
           refine JP.mk ?_
           exact Leaf.done (XOne.mk ⟨⟨rfl, trivial⟩, trivial⟩)
          ·refine Run.setB (t := 4) rfl hc ?_
           refine Run.condF rfl ?_
           refine rs ?_
           refine ro ?_
           refine oc ?_
           refine S.eql rfl rfl rfl ?_
           refine oc ?_
           refine S.move rfl ?_
           refine oz ?_
           rcases itep h with ⟨hc, h⟩ | ⟨hc, h⟩
           ·refine Run.setB (t := 4) rfl hc ?_
            refine Run.condT rfl ?_
            refine Run.skip ?_
            obtain rfl := some_inj h
            refine JP.mk ?_
            exact Leaf.done (XOne.mk ⟨⟨rfl, trivial⟩, trivial⟩)
           ·refine Run.setB (t := 4) rfl hc ?_
            refine Run.condF rfl ?_
            refine ro ?_
            refine oc ?_
            refine S.eql rfl rfl rfl ?_
            refine oc ?_
            refine S.move rfl ?_
            refine oz ?_
            obtain rfl := some_inj h
            refine JP.mk ?_
            exact Leaf.done (XOne.mk ⟨⟨rfl, trivial⟩, trivial⟩)
 ·intro e0 st0 hX
  rcases hX with ⟨hX⟩
  have hI : Is _ _ _ := hX
  revert hI
  refine fun hI => hI.elim ?_
  intro e H
  rcases ite_some h with ⟨hc, h⟩ | ⟨hc, h⟩
  ·refine Run.setB (t := 4) rfl hc ?_
   refine Run.condT rfl ?_
   refine rs ?_
   refine ro ?_
   refine oc ?_
   refine S.move rfl ?_
   refine oz ?_
   refine Run.ret ?_
   obtain rfl := some_inj h
   exact FinS.fin (End.tmp rfl rfl rfl)
  ·refine Run.setB (t := 4) rfl hc ?_
   refine Run.condF rfl ?_
   refine Run.skip ?_
   refine rs ?_
   refine ro ?_
   refine oc ?_
   refine S.move rfl ?_
   refine oz ?_
   refine Run.ret ?_
   obtain rfl := some_inj h
   exact FinS.fin (End.tmp rfl rfl rfl)

theorem r75 (a0 : T_nat_Nat) (a1 : T_nat_Nat) (r : T_nat_Nat × Bool) (h : nat_Nat_Sub a0 a1 = some r) : Fn Try.prog 75 [.agg (c_nat_Nat a0), .agg (c_nat_Nat a1)] (.tup [.agg (c_nat_Nat r.1), .bool r.2]) := by
 unfold nat_Nat_Sub at h
 refine Fn.ofS hm Try.func75 t75 (Nat.le_of_ble_eq_true rfl) ?_
 refine rs ?_
 refine ro ?_
 refine oc ?_
 refine S.box rfl rfl rfl rfl ?_
 refine oc ?_
 refine S.box rfl rfl rfl rfl ?_
 refine oc ?_
 refine S.alloc rfl ?_
 refine oc ?_
 refine S.move rfl ?_
 refine oz ?_
 refine rs ?_
 refine rs ?_
 refine ro ?_
 refine oc ?_
 refine S.loadP rfl rfl rfl ?_
 refine oc ?_
 refine S.loadP rfl rfl rfl ?_
 obtain ⟨v1, h_v1, h⟩ := bnd_some h
 refine oc ?_
 refine S.call (And.intro rfl rfl) (r52 a0 a1 _ h_v1) rfl ?_
 refine oc ?_
 refine S.lss rfl rfl rfl ?_
 refine oz ?_
 rcases ite_some h with ⟨hc, h⟩ | ⟨hc, h⟩
 ·refine Run.setB (t := 13) rfl hc ?_
  refine Run.condT rfl ?_
  refine rs ?_
  refine ro ?_
  refine oc ?_
  refine S.build (And.intro rfl rfl) rfl ?_
  refine oc ?_
  refine S.storeP rfl rfl rfl rfl rfl rfl (Nat.le_of_ble_eq_true rfl) rfl ?_
  refine oc ?_
  refine S.move rfl ?_
  refine oz ?_
  refine Run.cutJ (J := fun st => ∃ g4 : Nat, Is [(4, .ptr 4 g4 0), (5, .bool false)] [(4, g4, some (.box [.nil]))] st) ⟨_, ⟨rfl, rfl, trivial⟩, ⟨rfl, trivial⟩⟩ ?_
  rintro st ⟨g4, hI⟩
  have hI : Is _ _ _ := hI
  revert hI
  refine fun hI => hI.elim ?_
  intro e H
  refine Run.ret ?_
  obtain rfl := some_inj h
  exact FinS.fin (End.all (And.intro rfl rfl))
 ·refine Run.setB (t := 13) rfl hc ?_
  refine Run.condF rfl ?_
  refine Run.skip ?_
  refine rs ?_
  refine ro ?_
  refine oc ?_
  refine S.faddrP rfl rfl ?_
  refine oc ?_
  refine S.loadP rfl rfl rfl ?_
  refine oc ?_
  refine S.lenLM rfl ?_
  obtain ⟨v2, h_v2, h⟩ := bnd_some h
  refine oc ?_
  refine S.mkSlM (c := c_u32) rfl rfl h_v2 rfl rfl ?_
  refine oc ?_
  refine S.move rfl ?_
  refine oz ?_
  refine Run.cutJ (J := fun st => ∃ g2 g3 g4 g18 : Nat, Is [(2, .ptr 2 g2 0), (3, .ptr 3 g3 0), (4, .ptr 4 g4 0), (6, .view 18 g18 1 (List.map c_u32 v2).length)] [(2, g2, some (.box [.sl (List.map c_u32 a0)])), (3, g3, some (.box [.sl (List.map c_u32 a1)])), (4, g4, some (.box [.nil])), (18, g18, some (.arr 83 1 (List.map c_u32 v2)))] st) ⟨_, _, _, _, ⟨rfl, rfl, rfl, rfl, trivial⟩, ⟨rfl, rfl, rfl, rfl, trivial⟩⟩ ?_
  rintro st ⟨g2, g3, g4, g18, hI⟩
  have hI : Is _ _ _ := hI
  revert hI
  refine fun hI => hI.elim ?_
  intro e H
  refine rs ?_
  refine ro ?_
  refine oc ?_
  refine S.move rfl ?_
  refine oz ?_
  refine rs ?_
  refine rs ?_
  refine ro ?_
  refine oc ?_
  refine S.faddrP rfl rfl ?_
  refine oc ?_
  refine S.loadP rfl rfl rfl ?_
  refine oc ?_
  refine S.lenLM rfl ?_
  refine oc ?_
  refine S.move rfl ?_
  refine oz ?_
  refine Run.block ?_
  obtain ⟨x9, hx, h⟩ := bnd_some h
  refine Run.iter (I := (fun (s : Int × Int × List Int) (st : St) => ∃ g2 g3 g4 g18 : Nat, Is [(2, .ptr 2 g2 0), (3, .ptr 3 g3 0), (4, .ptr 4 g4 0), (6, .view 18 g18 1 (List.map c_u32 s.2.2).length), (7, .int .u32 s.1), (21, .int .i64 (a0.length : Int)), (22, .int .i64 s.2.1)] [(2, g2, some (.box [.sl (List.map c_u32 a0)])), (3, g3, some (.box [.sl (List.map c_u32 a1)])), (4, g4, some (.box [.nil])), (18, g18, some (.arr 83 1 (List.map c_u32 s.2.2)))] st)) (X := (XOne (.exit 0) (fun (x : List Int) (st : St) => ∃ g4 g18 : Nat, Is [(4, .ptr 4 g4 0), (6, .view 18 g18 1 (List.map c_u32 x).length)] [(4, g4, some (.box [.nil])), (18, g18, some (.arr 83 1 (List.map c_u32 x)))] st))) hx ?_ ?_ ?_
  ·exact ⟨_, _, _, _, ⟨rfl, rfl, rfl, rfl, rfl, rfl, rfl, trivial⟩, ⟨rfl, rfl, rfl, rfl, trivial⟩⟩
  ·rintro s3 st ⟨g2, g3, g4, g18, hI⟩ o h
   have hI : Is _ _ _ := hI
   revert hI
   refine fun hI => hI.elim ?_
   intro e H
   refine rs ?_
   refine ro ?_
   refine oc ?_
   refine S.lss rfl rfl rfl ?_
   refine oz ?_
   refine rs ?_
   rcases ite_some h with ⟨hc, h⟩ | ⟨hc, h⟩
   ·refine Run.setB (t := 23) rfl hc ?_
    refine Run.condT rfl ?_
    refine Run.skip ?_
    refine rs ?_
    refine Run.block ?_
    refine rs ?_
    refine ro ?_
    refine oc ?_
    refine S.move rfl ?_
    refine oc ?_
    refine S.move rfl ?_
    refine oz ?_
    refine rs ?_
    refine ro ?_
    refine oc ?_
    refine S.move rfl ?_
    refine oz ?_
    refine rs ?_
    obtain ⟨x5, hx, h⟩ := bnd_some h
    refine Run.joinG (X := (XOne .normal (fun (x : Int) (st : St) => ∃ g2 g3 g4 g18 : Nat, Is [(2, .ptr 2 g2 0), (3, .ptr 3 g3 0), (4, .ptr 4 g4 0), (6, .view 18 g18 1 (List.map c_u32 s3.2.2).length), (7, .int .u32 s3.1), (8, .int .i64 s3.2.1), (9, .int .u32 x), (21, .int .i64 (a0.length : Int)), (22, .int .i64 s3.2.1)] [(2, g2, some (.box [.sl (List.map c_u32 a0)])), (3, g3, some (.box [.sl (List.map c_u32 a1)])), (4, g4, some (.box [.nil])), (18, g18, some (.arr 83 1 (List.map c_u32 s3.2.2)))] st))) (x := x5) ?_ ?_
    ·replace h := hx
     refine rs ?_
     refine ro ?_
     refine oc ?_
     refine S.move rfl ?_
     refine oc ?_
     refine S.faddrP rfl rfl ?_
     refine oc ?_
     refine S.loadP rfl rfl rfl ?_
     refine oc ?_
     refine S.lenLM rfl ?_
     refine oc ?_
     refine S.lss rfl rfl rfl ?_
     refine oz ?_
     rcases ite_some h with ⟨hc, h⟩ | ⟨hc, h⟩
     ·refine Run.setB (t := 29) rfl hc ?_
      refine Run.condT rfl ?_
      refine ro ?_
      refine oc ?_
      refine S.faddrP rfl rfl ?_
      refine oc ?_
      refine S.loadP rfl rfl rfl ?_
      refine oc ?_
      refine S.move rfl ?_
      obtain ⟨v4, h_v4, h⟩ := bnd_some h
      refine oc ?_
      refine S.iaddrLM (c := c_u32) rfl rfl h_v4 (fun _ => rfl) ?_
      refine oc ?_
      refine S.loadC rfl rfl ?_
      refine oc ?_
      refine S.move rfl ?_
      refine oz ?_
      obtain rfl := some_inj h
      refine JP.mk ?_
      exact Leaf.done (XOne.mk ⟨_, _, _, _, ⟨rfl, rfl, rfl, rfl, rfl, rfl, rfl, rfl, rfl, trivial⟩, ⟨rfl, rfl, rfl, rfl, trivial⟩⟩)
     ·refine Run.setB (t := 29) rfl hc ?_
      refine Run.condF rfl ?_
      refine Run.skip ?_
      obtain rfl := some_inj h
      refine JP.mk ?_
      exact Leaf.done (XOne.mk ⟨_, _, _, _, ⟨rfl, rfl, rfl, rfl, rfl, rfl, rfl, rfl, rfl, trivial⟩, ⟨rfl, rfl, rfl, rfl, trivial⟩⟩)
    ·intro e0 st0 hX
     rcases hX with ⟨hX⟩
     obtain ⟨g2, g3, g4, g18, hI⟩ := hX
     revert hI
     refine fun hI => hI.elim ?_
     intro e H
     refine ro ?_
     refine oc ?_
     refine S.move rfl ?_
     refine oc ?_
     refine S.move rfl ?_
     refine oc ?_
     refine S.faddrP rfl rfl ?_
     refine oc ?_
     refine S.loadP rfl rfl rfl ?_
     refine oc ?_
     refine S.move rfl ?_
     obtain ⟨v6, h_v6, h⟩ := bnd_some h
     refine oc ?_
     refine S.iaddrLM (c := c_u32) rfl rfl h_v6 (fun _ => rfl) ?_
     refine oc ?_
     refine S.loadC rfl rfl ?_
     refine oc ?_
     refine S.move rfl ?_
     refine oc ?_
     refine S.move rfl ?_
     obtain ⟨v7, h_v7, h⟩ := bnd_some h
     refine oc ?_
     refine S.call (And.intro rfl rfl) (r87 v6 x5 s3.1 _ h_v7) rfl ?_
     refine oc ?_
     refine S.move rfl ?_
     refine oc ?_
     refine S.extract rfl rfl ?_
     refine oc ?_
     refine S.extract rfl rfl ?_
     obtain ⟨v8, h_v8, h⟩ := bnd_some h
     refine oc ?_
     refine S.iaddrVM (c := c_u32) rfl rfl (put_in h_v8) ?_
     refine oc ?_
     refine S.putM rfl rfl rfl rfl rfl rfl (by decide) (put_at h_v8) (fun _ => rfl) ?_
     refine OpsR.retell (t := 6) rfl (lenPut c_u32 (put_at h_v8)) ?_
     refine oc ?_
     refine S.move rfl ?_
     refine oz ?_
     refine Run.cutJ (J := fun st => ∃ g2 g3 g4 g18 : Nat, Is [(2, .ptr 2 g2 0), (3, .ptr 3 g3 0), (4, .ptr 4 g4 0), (6, .view 18 g18 1 (List.map c_u32 v8).length), (7, .int .u32 v7.2), (21, .int .i64 (a0.length : Int)), (22, .int .i64 s3.2.1)] [(2, g2, some (.box [.sl (List.map c_u32 a0)])), (3, g3, some (.box [.sl (List.map c_u32 a1)])), (4, g4, some (.box [.nil])), (18, g18, some (.arr 83 1 (List.map c_u32 v8)))] st) ⟨_, _, _, _, ⟨rfl, rfl, rfl, rfl, rfl, rfl, rfl, trivial⟩, ⟨rfl, rfl, rfl, rfl, trivial⟩⟩ ?_
     rintro st ⟨g2, g3, g4, g18, hI⟩
     have hI : Is _ _ _ := hI
     revert hI
     refine fun hI => hI.elim ?_
     intro e H
     refine ro ?_
     refine oc ?_
     refine S.add rfl rfl rfl ?_
     refine oc ?_
     refine S.move rfl ?_
     refine oz ?_
     obtain rfl := some_inj h
     refine LoopPost.next ?_
     exact Leaf.done ⟨_, _, _, _, ⟨rfl, rfl, rfl, rfl, rfl, rfl, rfl, trivial⟩, ⟨rfl, rfl, rfl, rfl, trivial⟩⟩
   ·refine Run.setB (t := 23) rfl hc ?_
    refine Run.condF rfl ?_
    refine Run.exit ?_
    obtain rfl := some_inj h
    refine LoopPost.out nofun ?_
    exact Leaf.done (XOne.mk ⟨_, _, ⟨rfl, rfl, trivial⟩, ⟨rfl, rfl, trivial⟩⟩)
  ·intro e0 st0 hX
   rcases hX with ⟨hX⟩
   obtain ⟨g4, g18, hI⟩ := hX
   revert hI
   refine fun hI => hI.elim ?_
   intro e H
   refine rs ?_
   refine ro ?_
   refine oc ?_
   refine S.move rfl ?_
   obtain ⟨v10, h_v10, h⟩ := bnd_some h
   refine oc ?_
   refine S.call (And.intro rfl (And.intro rfl (And.intro rfl (And.intro rfl rfl)))) (r58 x9 _ h_v10) rfl ?_
   refine oc ?_
   refine S.storeP rfl rfl rfl rfl rfl rfl (Nat.le_of_ble_eq_true rfl) rfl ?_
   refine oc ?_
   refine S.move rfl ?_
   refine oz ?_
   refine Run.ret ?_
   obtain rfl := some_inj h
   exact FinS.fin (End.all (And.intro rfl rfl))

theorem r57 (a0 : T_whole_Int) (a1 : T_whole_Int) (r : T_whole_Int) (h : whole_Int_plus a0 a1 = some r) : Fn Try.prog 57 [.agg (c_whole_Int a0), .agg (c_whole_Int a1)] (.agg (c_whole_Int r)) := by
 unfold whole_Int_plus at h
 refine Fn.ofS hm Try.func57 t57 (Nat.le_of_ble_eq_true rfl) ?_
 refine rs ?_
 refine ro ?_
 refine oc ?_
 refine S.box rfl rfl rfl rfl ?_
 refine oc ?_
 refine S.box rfl rfl rfl rfl ?_
 refine oc ?_
 refine S.alloc rfl ?_
 refine oz ?_
 refine rs ?_
 refine rs ?_
 refine ro ?_
 refine oc ?_
 refine S.faddrP rfl rfl ?_
 refine oc ?_
 refine S.loadP rfl rfl rfl ?_
 refine oc ?_
 refine S.faddrP rfl rfl ?_
 refine oc ?_
 refine S.loadP rfl rfl rfl ?_
 refine oc ?_
 refine S.binB rfl rfl rfl ?_
 refine oz ?_
 rcases ite_some h with ⟨hc, h⟩ | ⟨hc, h⟩
 ·refine Run.setB (t := 13) rfl hc ?_
  refine Run.condT rfl ?_
  refine rs ?_
  refine Run.drawn ?_
  refine d0 rfl ?_
  refine S.faddrP rfl rfl ?_
  refine d1 (x := (_, _)) rfl rfl ?_
  refine S.loadP rfl rfl rfl ?_
  refine d0 rfl ?_
  refine S.faddrP rfl rfl ?_
  refine d1 (x := (_, _)) rfl rfl ?_
  refine S.loadP rfl rfl rfl ?_
  refine d0 rfl ?_
  refine S.faddrP rfl rfl ?_
  refine d1 (x := (_, _)) rfl rfl ?_
  refine S.loadP rfl rfl rfl ?_
  obtain ⟨v1, h_v1, h⟩ := bnd_some h
  refine d1 (x := (_, _)) rfl rfl ?_
  refine S.call (And.intro rfl rfl) (r62 a0.1 a1.1 _ h_v1) rfl ?_
  obtain ⟨v2, h_v2, h⟩ := bnd_some h
  refine d1 (x := (_, _)) rfl rfl ?_
  refine S.call (And.intro rfl rfl) (r43 a0.2 v1 _ h_v2) rfl ?_
  refine d1 (x := (_, _)) rfl rfl ?_
  refine S.storeP rfl rfl rfl rfl rfl rfl (Nat.le_of_ble_eq_true rfl) rfl ?_
  refine DrawR.nil ?_
  refine Run.cutJ (J := fun st => ∃ g4 : Nat, Is [(4, .ptr 4 g4 0)] [(4, g4, some (.box [.sl (List.map c_u32 v2.1), .bool v2.2]))] st) ⟨_, ⟨rfl, trivial⟩, ⟨rfl, trivial⟩⟩ ?_
  rintro st ⟨g4, hI⟩
  have hI : Is _ _ _ := hI
  revert hI
  refine fun hI => hI.elim ?_
  intro e H
  refine Run.ret ?_
  obtain rfl := some_inj h
  exact FinS.fin (End.cell rfl rfl rfl rfl rfl)
 ·refine Run.setB (t := 13) rfl hc ?_
  refine Run.condF rfl ?_
  refine Run.skip ?_
  refine rs ?_
  refine rs ?_
  refine ro ?_
  refine oc ?_
  refine S.faddrP rfl rfl ?_
  refine oc ?_
  refine S.loadP rfl rfl rfl ?_
  refine oc ?_
  refine S.faddrP rfl rfl ?_
  refine oc ?_
  refine S.loadP rfl rfl rfl ?_
  obtain ⟨v3, h_v3, h⟩ := bnd_some h
  refine oc ?_
  refine S.call (And.intro rfl rfl) (r75 a0.1 a1.1 _ h_v3) rfl ?_
  refine oc ?_
  refine S.move rfl ?_
  refine oc ?_
  refine S.extract rfl rfl ?_
  refine oc ?_
  refine S.extract rfl rfl ?_
  refine oc ?_
  refine S.alloc rfl ?_
  refine oc ?_
  refine S.storeP rfl rfl rfl rfl rfl rfl (Nat.le_of_ble_eq_true rfl) rfl ?_
  refine oc ?_
  refine S.move rfl ?_
  refine oz ?_
  refine Run.cutJ (J := fun st => ∃ g2 g3 g4 g5 : Nat, Is [(2, .ptr 2 g2 0), (3, .ptr 3 g3 0), (4, .ptr 4 g4 0), (5, .ptr 5 g5 0), (6, .bool v3.2)] [(2, g2, some (.box [.sl (List.map c_u32 a0.1), .bool a0.2])), (3, g3, some (.box [.sl (List.map c_u32 a1.1), .bool a1.2])), (4, g4, some (.box [.nil, .bool false])), (5, g5, some (.box [.sl (List.map c_u32 v3.1)]))] st) ⟨_, _, _, _, ⟨rfl, rfl, rfl, rfl, rfl, trivial⟩, ⟨rfl, rfl, rfl, rfl, trivial⟩⟩ ?_
  rintro st ⟨g2, g3, g4, g5, hI⟩
  have hI : Is _ _ _ := hI
  revert hI
  refine fun hI => hI.elim ?_
  intro e H
  refine rs ?_
  refine ro ?_
  refine oc ?_
  refine S.move rfl ?_
  refine oz ?_
  rcases ite_some h with ⟨hc, h⟩ | ⟨hc, h⟩
  ·refine Run.setB (t := 30) rfl hc ?_
   refine Run.condT rfl ?_
   refine rs ?_
   refine ro ?_
   refine oc ?_
   refine S.faddrP rfl rfl ?_
   refine oc ?_
   refine S.loadP rfl rfl rfl ?_
   refine oc ?_
   refine S.loadP rfl rfl rfl ?_
   obtain ⟨v4, h_v4, h⟩ := bnd_some h
   refine oc ?_
   refine S.call (And.intro rfl rfl) (r43 a0.2 v3.1 _ h_v4) rfl ?_
   refine oc ?_
   refine S.storeP rfl rfl rfl rfl rfl rfl (Nat.le_of_ble_eq_true rfl) rfl ?_
   refine oz ?_
   refine Run.ret ?_
   obtain rfl := some_inj h
   exact FinS.fin (End.cell rfl rfl rfl rfl rfl)
  ·refine Run.setB (t := 30) rfl hc ?_
   refine Run.condF rfl ?_
   refine Run.skip ?_
   refine rs ?_
   refine ro ?_
   refine oc ?_
   refine S.faddrP rfl rfl ?_
   refine oc ?_
   refine S.loadP rfl rfl rfl ?_
   refine oc ?_
   refine S.faddrP rfl rfl ?_
   refine oc ?_
   refine S.loadP rfl rfl rfl ?_
   obtain ⟨v5, h_v5, h⟩ := bnd_some h
   refine oc ?_
   refine S.call (And.intro rfl rfl) (r75 a1.1 a0.1 _ h_v5) rfl ?_
   refine oc ?_
   refine S.move rfl ?_
   refine oc ?_
   refine S.extract rfl rfl ?_
   refine oc ?_
   refine S.extract rfl rfl ?_
   refine oc ?_
   refine S.alloc rfl ?_
   refine oc ?_
   refine S.storeP rfl rfl rfl rfl rfl rfl (Nat.le_of_ble_eq_true rfl) rfl ?_
   refine oc ?_
   refine S.move rfl ?_
   refine oz ?_
   refine Run.cutJ (J := fun st => ∃ g3 g4 g7 : Nat, Is [(3, .ptr 3 g3 0), (4, .ptr 4 g4 0), (7, .ptr 7 g7 0)] [(3, g3, some (.box [.sl (List.map c_u32 a1.1), .bool a1.2])), (4, g4, some (.box [.nil, .bool false])), (7, g7, some (.box [.sl (List.map c_u32 v5.1)]))] st) ⟨_, _, _, ⟨rfl, rfl, rfl, trivial⟩, ⟨rfl, rfl, rfl, trivial⟩⟩ ?_
   rintro st ⟨g3, g4, g7, hI⟩
   have hI : Is _ _ _ := hI
   revert hI
   refine fun hI => hI.elim ?_
   intro e H
   refine rs ?_
   refine ro ?_
   refine oc ?_
   refine S.faddrP rfl rfl ?_
   refine oc ?_
   refine S.loadP rfl rfl rfl ?_
   refine oc ?_
   refine S.loadP rfl rfl rfl ?_
   obtain ⟨v6, h_v6, h⟩ := bnd_some h
   refine oc ?_
   refine S.call (And.intro rfl rfl) (r43 a1.2 v5.1 _ h_v6) rfl ?_
   refine oc ?_
   refine S.storeP rfl rfl rfl rfl rfl rfl (Nat.le_of_ble_eq_true rfl) rfl ?_
   refine oz ?_
   refine Run.ret ?_
   obtain rfl := some_inj h
   exact FinS.fin (End.cell rfl rfl rfl rfl rfl)

theorem r31 (a0 : T_whole_Int) (a1 : List T_whole_Int) (r : T_whole_Int) (h : whole_Int_Plus a0 a1 = some r) : Fn Try.prog 31 [.agg (c_whole_Int a0), .sl (List.map c_whole_Int a1)] (.agg (c_whole_Int r)) := by
 unfold whole_Int_Plus at h
 refine Fn.ofS hm Try.func31 t31 (Nat.le_of_ble_eq_true rfl) ?_
 refine rs ?_
 refine ro ?_
 refine oc ?_
 refine S.box rfl rfl rfl rfl ?_
 refine oc ?_
 refine S.alloc rfl ?_
 refine oz ?_
 refine rs ?_
 refine rs ?_
 refine ro ?_
 refine oc ?_
 refine S.move rfl ?_
 refine oc ?_
 refine S.lenLM rfl ?_
 refine oc ?_
 refine S.move rfl ?_
 refine oz ?_
 refine Run.block ?_
 obtain ⟨x4, hx, h⟩ := bnd_some h
 refine Run.iter (I := (fun (s : Int × List Int × Bool) (st : St) => ∃ g2 g4 : Nat, Is [(2, .ptr 2 g2 0), (4, .ptr 4 g4 0), (7, .sl (List.map c_whole_Int a1)), (8, .int .i64 (a1.length : Int)), (9, .int .i64 s.1)] [(2, g2, some (.box [.sl (List.map c_u32 s.2.1), .bool s.2.2])), (4, g4, some (.box [.nil, .bool false]))] st)) (X := (XOne (.exit 0) (fun (x : List Int × Bool) (st : St) => ∃ g2 g4 : Nat, Is [(2, .ptr 2 g2 0), (4, .ptr 4 g4 0)] [(2, g2, some (.box [.sl (List.map c_u32 x.1), .bool x.2])), (4, g4, some (.box [.nil, .bool false]))] st))) hx ?_ ?_ ?_
 ·exact ⟨_, _, ⟨rfl, rfl, rfl, rfl, rfl, trivial⟩, ⟨rfl, rfl, trivial⟩⟩
 ·rintro s1 st ⟨g2, g4, hI⟩ o h
  have hI : Is _ _ _ := hI
  revert hI
  refine fun hI => hI.elim ?_
  intro e H
  refine rs ?_
  refine ro ?_
  refine oc ?_
  refine S.lss rfl rfl rfl ?_
  refine oz ?_
  refine rs ?_
  rcases ite_some h with ⟨hc, h⟩ | ⟨hc, h⟩
  ·refine Run.setB (t := 10) rfl hc ?_
   refine Run.condT rfl ?_
   refine Run.skip ?_
   refine rs ?_
   refine Run.block ?_
   refine rs ?_
   refine ro ?_
   obtain ⟨v2, h_v2, h⟩ := bnd_some h
   refine oc ?_
   refine S.iaddrLM (c := c_whole_Int) rfl rfl h_v2 (fun _ => rfl) ?_
   refine oc ?_
   refine S.loadC rfl rfl ?_
   refine oc ?_
   refine S.alloc rfl ?_
   refine oc ?_
   refine S.storeP rfl rfl rfl rfl rfl rfl (Nat.le_of_ble_eq_true rfl) rfl ?_
   refine oz ?_
   refine ro ?_
   refine oc ?_
   refine S.loadP rfl rfl rfl ?_
   refine oc ?_
   refine S.loadP rfl rfl rfl ?_
   obtain ⟨v3, h_v3, h⟩ := bnd_some h
   refine oc ?_
   refine S.call (And.intro rfl rfl) (r57 s1.2 v2 _ h_v3) rfl ?_
   refine oc ?_
   refine S.storeP rfl rfl rfl rfl rfl rfl (Nat.le_of_ble_eq_true rfl) rfl ?_
   refine oz ?_
   refine ro ?_
   refine oc ?_
   refine S.add rfl rfl rfl ?_
   refine oc ?_
   refine S.move rfl ?_
   refine oz ?_
   obtain rfl := some_inj h
   refine LoopPost.next ?_
   exact Leaf.done ⟨_, _, ⟨rfl, rfl, rfl, rfl, rfl, trivial⟩, ⟨rfl, rfl, trivial⟩⟩
  ·refine Run.setB (t := 10) rfl hc ?_
   refine Run.condF rfl ?_
   refine Run.exit ?_
   obtain rfl := some_inj h
   refine LoopPost.out nofun ?_
   exact Leaf.done (XOne.mk ⟨_, _, ⟨rfl, rfl, trivial⟩, ⟨rfl, rfl, trivial⟩⟩)
 ·intro e0 st0 hX
  rcases hX with ⟨hX⟩
  obtain ⟨g2, g4, hI⟩ := hX
  revert hI
  refine fun hI => hI.elim ?_
  intro e H
  refine rs ?_
  refine ro ?_
  refine oc ?_
  refine S.loadP rfl rfl rfl ?_
  refine oc ?_
  refine S.storeP rfl rfl rfl rfl rfl rfl (Nat.le_of_ble_eq_true rfl) rfl ?_
  refine oz ?_
  refine Run.ret ?_
  obtain rfl := some_inj h
  exact FinS.fin (End.cell rfl rfl rfl rfl rfl)

theorem r12 (a0 : T_ratio_Rat) (a1 : List T_ratio_Rat) (r : T_ratio_Rat) (h : ratio_Rat_Plus a0 a1 = some r) : Fn Try.prog 12 [.agg (c_ratio_Rat a0), .sl (List.map c_ratio_Rat a1)] (.agg (c_ratio_Rat r)) := by
 unfold ratio_Rat_Plus at h
 refine Fn.ofS hm Try.func12 t12 (Nat.le_of_ble_eq_true rfl) ?_
 refine rs ?_
 refine ro ?_
 refine oc ?_
 refine S.box rfl rfl rfl rfl ?_
 refine oc ?_
 refine S.alloc rfl ?_
 refine oz ?_
 refine rs ?_
 refine rs ?_
 refine ro ?_
 refine oc ?_
 refine S.move rfl ?_
 refine oc ?_
 refine S.lenLM rfl ?_
 refine oc ?_
 refine S.move rfl ?_
 refine oz ?_
 refine Run.block ?_
 obtain ⟨x12, hx, h⟩ := bnd_some h
 refine Run.iter (I := (fun (s : Int × List Int × Bool × List Int) (st : St) => ∃ g2 g4 : Nat, Is [(2, .ptr 2 g2 0), (4, .ptr 4 g4 0), (7, .sl (List.map c_ratio_Rat a1)), (8, .int .i64 (a1.length : Int)), (9, .int .i64 s.1)] [(2, g2, some (.box [.sl (List.map c_u32 s.2.1), .bool s.2.2.1, .sl (List.map c_u32 s.2.2.2)])), (4, g4, some (.box [.nil, .bool false, .nil]))] st)) (X := (XOne (.exit 0) (fun (x : List Int × Bool × List Int) (st : St) => ∃ g2 g4 : Nat, Is [(2, .ptr 2 g2 0), (4, .ptr 4 g4 0)] [(2, g2, some (.box [.sl (List.map c_u32 x.1), .bool x.2.1, .sl (List.map c_u32 x.2.2)])), (4, g4, some (.box [.nil, .bool false, .nil]))] st))) hx ?_ ?_ ?_
 ·exact ⟨_, _, ⟨rfl, rfl, rfl, rfl, rfl, trivial⟩, ⟨rfl, rfl, trivial⟩⟩
 ·rintro s1 st ⟨g2, g4, hI⟩ o h
  have hI : Is _ _ _ := hI
  revert hI
  refine fun hI => hI.elim ?_
  intro e H
  refine rs ?_
  refine ro ?_
  refine oc ?_
  refine S.lss rfl rfl rfl ?_
  refine oz ?_
  refine rs ?_
  rcases ite_some h with ⟨hc, h⟩ | ⟨hc, h⟩
  ·refine Run.setB (t := 10) rfl hc ?_
   refine Run.condT rfl ?_
   refine Run.skip ?_
   refine rs ?_
   refine Run.block ?_
   refine rs ?_
   refine ro ?_
   obtain ⟨v2, h_v2, h⟩ := bnd_some h
   refine oc ?_
   refine S.iaddrLM (c := c_ratio_Rat) rfl rfl h_v2 (fun _ => rfl) ?_
   refine oc ?_
   refine S.loadC rfl rfl ?_
   refine oc ?_
   refine S.alloc rfl ?_
   refine oc ?_
   refine S.storeP rfl rfl rfl rfl rfl rfl (Nat.le_of_ble_eq_true rfl) rfl ?_
   refine oz ?_
   refine Run.drawn ?_
   refine d0 rfl ?_
   refine S.faddrP rfl rfl ?_
   refine d1 (x := (_, _)) rfl rfl ?_
   refine S.loadP rfl rfl rfl ?_
   refine d1 (x := (_, _)) rfl rfl ?_
   refine S.loadP rfl rfl rfl ?_
   obtain ⟨v3, h_v3, h⟩ := bnd_some h
   refine d1 (x := (_, _)) rfl rfl ?_
   refine S.call (And.intro rfl rfl) (r28 v2 _ h_v3) rfl ?_
   refine d1 (x := (_, _)) rfl rfl ?_
   refine S.buildSlM (c := c_whole_Int) (l := ([v3] : List T_whole_Int)) (And.intro rfl rfl) rfl rfl rfl ?_
   obtain ⟨v4, h_v4, h⟩ := bnd_some h
   refine d2 (x := (_, _)) (y := (_, _)) rfl rfl ?_
   refine S.call (And.intro rfl (And.intro rfl (And.intro rfl (And.intro rfl rfl)))) (r27 (s1.2.1, s1.2.2.1) ([v3] : List T_whole_Int) _ h_v4) rfl ?_
   refine d0 rfl ?_
   refine S.faddrP rfl rfl ?_
   refine d1 (x := (_, _)) rfl rfl ?_
   refine S.loadP rfl rfl rfl ?_
   refine d1 (x := (_, _)) rfl rfl ?_
   refine S.loadP rfl rfl rfl ?_
   obtain ⟨v5, h_v5, h⟩ := bnd_some h
   refine d1 (x := (_, _)) rfl rfl ?_
   refine S.call (And.intro rfl rfl) (r28 ((s1.2.1, s1.2.2.1), s1.2.2.2) _ h_v5) rfl ?_
   refine d1 (x := (_, _)) rfl rfl ?_
   refine S.buildSlM (c := c_whole_Int) (l := ([v5] : List T_whole_Int)) (And.intro rfl rfl) rfl rfl rfl ?_
   obtain ⟨v6, h_v6, h⟩ := bnd_some h
   refine d2 (x := (_, _)) (y := (_, _)) rfl rfl ?_
   refine S.call (And.intro rfl (And.intro rfl (And.intro rfl (And.intro rfl rfl)))) (r27 v2.1 ([v5] : List T_whole_Int) _ h_v6) rfl ?_
   refine d1 (x := (_, _)) rfl rfl ?_
   refine S.buildSlM (c := c_whole_Int) (l := ([v6] : List T_whole_Int)) (And.intro rfl rfl) rfl rfl rfl ?_
   refine DrawR.cutJ (J := fun st => ∃ g2 g4 g6 g26 : Nat, Is [(2, .ptr 2 g2 0), (4, .ptr 4 g4 0), (6, .ptr 6 g6 0), (7, .sl (List.map c_ratio_Rat a1)), (8, .int .i64 (a1.length : Int)), (9, .int .i64 s1.1), (19, .agg [.sl (List.map c_u32 v4.1), .bool v4.2]), (26, .view 26 g26 2 (List.map c_whole_Int ([v6] : List T_whole_Int)).length)] [(2, g2, some (.box [.sl (List.map c_u32 s1.2.1), .bool s1.2.2.1, .sl (List.map c_u32 s1.2.2.2)])), (4, g4, some (.box [.nil, .bool false, .nil])), (6, g6, some (.box [.sl (List.map c_u32 v2.1.1), .bool v2.1.2, .sl (List.map c_u32 v2.2)])), (26, g26, some (.arr 30 2 (List.map c_whole_Int ([v6] : List T_whole_Int))))] st) ⟨_, _, _, _, ⟨rfl, rfl, rfl, rfl, rfl, rfl, rfl, rfl, trivial⟩, ⟨rfl, rfl, rfl, rfl, trivial⟩⟩ ?_
   rintro st ⟨g2, g4, g6, g26, hI⟩
   have hI : Is _ _ _ := hI
   revert hI
   refine fun hI => hI.elim ?_
   intro e H
   obtain ⟨v7, h_v7, h⟩ := bnd_some h
   refine d2 (x := (_, _)) (y := (_, _)) rfl rfl ?_
   refine S.call (And.intro rfl (And.intro rfl (And.intro rfl (And.intro rfl rfl)))) (r31 v4 ([v6] : List T_whole_Int) _ h_v7) rfl ?_
   refine d1 (x := (_, _)) rfl rfl ?_
   refine S.loadP rfl rfl rfl ?_
   obtain ⟨v8, h_v8, h⟩ := bnd_some h
   refine d1 (x := (_, _)) rfl rfl ?_
   refine S.call (And.intro rfl rfl) (r28 ((s1.2.1, s1.2.2.1), s1.2.2.2) _ h_v8) rfl ?_
   refine d1 (x := (_, _)) rfl rfl ?_
   refine S.loadP rfl rfl rfl ?_
   obtain ⟨v9, h_v9, h⟩ := bnd_some h
   refine d1 (x := (_, _)) rfl rfl ?_
   refine S.call (And.intro rfl rfl) (r28 v2 _ h_v9) rfl ?_
   refine d1 (x := (_, _)) rfl rfl ?_
   refine S.buildSlM (c := c_whole_Int) (l := ([v9] : List T_whole_Int)) (And.intro rfl rfl) rfl rfl rfl ?_
   obtain ⟨v10, h_v10, h⟩ := bnd_some h
   refine d2 (x := (_, _)) (y := (_, _)) rfl rfl ?_
   refine S.call (And.intro rfl (And.intro rfl (And.intro rfl (And.intro rfl rfl)))) (r27 v8 ([v9] : List T_whole_Int) _ h_v10) rfl ?_
   obtain ⟨v11, h_v11, h⟩ := bnd_some h
   refine d1 (x := (_, _)) rfl rfl ?_
   refine S.call (And.intro rfl rfl) (r30 v7 v10 _ h_v11) rfl ?_
   refine d0 rfl ?_
   refine S.move rfl ?_
   refine d0 rfl ?_
   refine S.extract rfl rfl ?_
   refine d0 rfl ?_
   refine S.extract rfl rfl ?_
   refine d1 (x := (_, _)) rfl rfl ?_
   refine S.storeP rfl rfl rfl rfl rfl rfl (Nat.le_of_ble_eq_true rfl) rfl ?_
   refine DrawR.nil ?_
   refine Run.cutJ (J := fun st => ∃ g2 g4 : Nat, Is [(2, .ptr 2 g2 0), (4, .ptr 4 g4 0), (7, .sl (List.map c_ratio_Rat a1)), (8, .int .i64 (a1.length : Int)), (9, .int .i64 s1.1)] [(2, g2, some (.box [.sl (List.map c_u32 v11.1.1.1), .bool v11.1.1.2, .sl (List.map c_u32 v11.1.2)])), (4, g4, some (.box [.nil, .bool false, .nil]))] st) ⟨_, _, ⟨rfl, rfl, rfl, rfl, rfl, trivial⟩, ⟨rfl, rfl, trivial⟩⟩ ?_
   rintro st ⟨g2, g4, hI⟩
   have hI : Is _ _ _ := hI
   revert hI
   refine fun hI => hI.elim ?_
   intro e H
   refine ro ?_
   refine oc ?_
   refine S.add rfl rfl rfl ?_
   refine oc ?_
   refine S.move rfl ?_
   refine oz ?_
   obtain rfl := some_inj h
   refine LoopPost.next ?_
   exact Leaf.done ⟨_, _, ⟨rfl, rfl, rfl, rfl, rfl, trivial⟩, ⟨rfl, rfl, trivial⟩⟩
  ·refine Run.setB (t := 10) rfl hc ?_
   refine Run.condF rfl ?_
   refine Run.exit ?_
   obtain rfl := some_inj h
   refine LoopPost.out nofun ?_
   exact Leaf.done (XOne.mk ⟨_, _, ⟨rfl, rfl, trivial⟩, ⟨rfl, rfl, trivial⟩⟩)
 ·intro e0 st0 hX
  rcases hX with ⟨hX⟩
  obtain ⟨g2, g4, hI⟩ := hX
  revert hI
  refine fun hI => hI.elim ?_
  intro e H
  refine rs ?_
  refine ro ?_
  refine oc ?_
  refine S.loadP rfl rfl rfl ?_
  refine oc ?_
  refine S.storeP rfl rfl rfl rfl rfl rfl (Nat.le_of_ble_eq_true rfl) rfl ?_
  refine oz ?_
  refine Run.ret ?_
  obtain rfl := some_inj h
  exact FinS.fin (End.cell rfl rfl rfl rfl rfl)

theorem r14 (a0 : T_ratio_Rat) (a1 : List T_ratio_Rat) (r : T_ratio_Rat) (h : ratio_Rat_Times a0 a1 = some r) : Fn Try.prog 14 [.agg (c_ratio_Rat a0), .sl (List.map c_ratio_Rat a1)] (.agg (c_ratio_Rat r)) := by
 unfold ratio_Rat_Times at h
 refine Fn.ofS hm Try.func14 t14 (Nat.le_of_ble_eq_true rfl) ?_
 refine rs ?_
 refine ro ?_
 refine oc ?_
 refine S.box rfl rfl rfl rfl ?_
 refine oc ?_
 refine S.alloc rfl ?_
 refine oz ?_
 refine rs ?_
 refine rs ?_
 refine ro ?_
 refine oc ?_
 refine S.move rfl ?_
 refine oc ?_
 refine S.lenLM rfl ?_
 refine oc ?_
 refine S.move rfl ?_
 refine oz ?_
 refine Run.block ?_
 obtain ⟨x8, hx, h⟩ := bnd_some h
 refine Run.iter (I := (fun (s : Int × List Int × Bool × List Int) (st : St) => ∃ g2 g4 : Nat, Is [(2, .ptr 2 g2 0), (4, .ptr 4 g4 0), (7, .sl (List.map c_ratio_Rat a1)), (8, .int .i64 (a1.length : Int)), (9, .int .i64 s.1)] [(2, g2, some (.box [.sl (List.map c_u32 s.2.1), .bool s.2.2.1, .sl (List.map c_u32 s.2.2.2)])), (4, g4, some (.box [.nil, .bool false, .nil]))] st)) (X := (XOne (.exit 0) (fun (x : List Int × Bool × List Int) (st : St) => ∃ g2 g4 : Nat, Is [(2, .ptr 2 g2 0), (4, .ptr 4 g4 0)] [(2, g2, some (.box [.sl (List.map c_u32 x.1), .bool x.2.1, .sl (List.map c_u32 x.2.2)])), (4, g4, some (.box [.nil, .bool false, .nil]))] st))) hx ?_ ?_ ?_
 ·exact ⟨_, _, ⟨rfl, rfl, rfl, rfl, rfl, trivial⟩, ⟨rfl, rfl, trivial⟩⟩
 ·rintro s1 st ⟨g2, g4, hI⟩ o h
  have hI : Is _ _ _ := hI
  revert hI
  refine fun hI => hI.elim ?_
  intro e H
  refine rs ?_
  refine ro ?_
  refine oc ?_
  refine S.lss rfl rfl rfl ?_
  refine oz ?_
  refine rs ?_
  rcases ite_some h with ⟨hc, h⟩ | ⟨hc, h⟩
  ·refine Run.setB (t := 10) rfl hc ?_
   refine Run.condT rfl ?_
   refine Run.skip ?_
   refine rs ?_
   refine Run.block ?_
   refine rs ?_
   refine ro ?_
   obtain ⟨v2, h_v2, h⟩ := bnd_some h
   refine oc ?_
   refine S.iaddrLM (c := c_ratio_Rat) rfl rfl h_v2 (fun _ => rfl) ?_
   refine oc ?_
   refine S.loadC rfl rfl ?_
   refine oc ?_
   refine S.alloc rfl ?_
   refine oc ?_
   refine S.storeP rfl rfl rfl rfl rfl rfl (Nat.le_of_ble_eq_true rfl) rfl ?_
   refine oz ?_
   refine Run.drawn ?_
   refine d0 rfl ?_
   refine S.faddrP rfl rfl ?_
   refine d1 (x := (_, _)) rfl rfl ?_
   refine S.loadP rfl rfl rfl ?_
   refine d0 rfl ?_
   refine S.faddrP rfl rfl ?_
   refine d1 (x := (_, _)) rfl rfl ?_
   refine S.loadP rfl rfl rfl ?_
   refine d1 (x := (_, _)) rfl rfl ?_
   refine S.buildSlM (c := c_whole_Int) (l := ([v2.1] : List T_whole_Int)) (And.intro rfl rfl) rfl rfl rfl ?_
   obtain ⟨v3, h_v3, h⟩ := bnd_some h
   refine d2 (x := (_, _)) (y := (_, _)) rfl rfl ?_
   refine S.call (And.intro rfl (And.intro rfl (And.intro rfl (And.intro rfl rfl)))) (r27 (s1.2.1, s1.2.2.1) ([v2.1] : List T_whole_Int) _ h_v3) rfl ?_
   refine d1 (x := (_, _)) rfl rfl ?_
   refine S.loadP rfl rfl rfl ?_
   obtain ⟨v4, h_v4, h⟩ := bnd_some h
   refine d1 (x := (_, _)) rfl rfl ?_
   refine S.call (And.intro rfl rfl) (r28 ((s1.2.1, s1.2.2.1), s1.2.2.2) _ h_v4) rfl ?_
   refine d1 (x := (_, _)) rfl rfl ?_
   refine S.loadP rfl rfl rfl ?_
   obtain ⟨v5, h_v5, h⟩ := bnd_some h
   refine d1 (x := (_, _)) rfl rfl ?_
   refine S.call (And.intro rfl rfl) (r28 v2 _ h_v5) rfl ?_
   refine d1 (x := (_, _)) rfl rfl ?_
   refine S.buildSlM (c := c_whole_Int) (l := ([v5] : List T_whole_Int)) (And.intro rfl rfl) rfl rfl rfl ?_
   obtain ⟨v6, h_v6, h⟩ := bnd_some h
   refine d2 (x := (_, _)) (y := (_, _)) rfl rfl ?_
   refine S.call (And.intro rfl (And.intro rfl (And.intro rfl (And.intro rfl rfl)))) (r27 v4 ([v5] : List T_whole_Int) _ h_v6) rfl ?_
   obtain ⟨v7, h_v7, h⟩ := bnd_some h
   refine d1 (x := (_, _)) rfl rfl ?_
   refine S.call (And.intro rfl rfl) (r30 v3 v6 _ h_v7) rfl ?_
   refine d0 rfl ?_
   refine S.move rfl ?_
   refine d0 rfl ?_
   refine S.extract rfl rfl ?_
   refine d0 rfl ?_
   refine S.extract rfl rfl ?_
   refine d1 (x := (_, _)) rfl rfl ?_
   refine S.storeP rfl rfl rfl rfl rfl rfl (Nat.le_of_ble_eq_true rfl) rfl ?_
   refine DrawR.nil ?_
   refine Run.cutJ (J := fun st => ∃ g2 g4 : Nat, Is [(2, .ptr 2 g2 0), (4, .ptr 4 g4 0), (7, .sl (List.map c_ratio_Rat a1)), (8, .int .i64 (a1.length : Int)), (9, .int .i64 s1.1)] [(2, g2, some (.box [.sl (List.map c_u32 v7.1.1.1), .bool v7.1.1.2, .sl (List.map c_u32 v7.1.2)])), (4, g4, some (.box [.nil, .bool false, .nil]))] st) ⟨_, _, ⟨rfl, rfl, rfl, rfl, rfl, trivial⟩, ⟨rfl, rfl, trivial⟩⟩ ?_
   rintro st ⟨g2, g4, hI⟩
   have hI : Is _ _ _ := hI
   revert hI
   refine fun hI => hI.elim ?_
   intro e H
   refine ro ?_
   refine oc ?_
   refine S.add rfl rfl rfl ?_
   refine oc ?_
   refine S.move rfl ?_
   refine oz ?_
   obtain rfl := some_inj h
   refine LoopPost.next ?_
   exact Leaf.done ⟨_, _, ⟨rfl, rfl, rfl, rfl, rfl, trivial⟩, ⟨rfl, rfl, trivial⟩⟩
  ·refine Run.setB (t := 10) rfl hc ?_
   refine Run.condF rfl ?_
   refine Run.exit ?_
   obtain rfl := some_inj h
   refine LoopPost.out nofun ?_
   exact Leaf.done (XOne.mk ⟨_, _, ⟨rfl, rfl, trivial⟩, ⟨rfl, rfl, trivial⟩⟩)
 ·intro e0 st0 hX
  rcases hX with ⟨hX⟩
  obtain ⟨g2, g4, hI⟩ := hX
  revert hI
  refine fun hI => hI.elim ?_
  intro e H
  refine rs ?_
  refine ro ?_
  refine oc ?_
  refine S.loadP rfl rfl rfl ?_
  refine oc ?_
  refine S.storeP rfl rfl rfl rfl rfl rfl (Nat.le_of_ble_eq_true rfl) rfl ?_
  refine oz ?_
  refine Run.ret ?_
  obtain rfl := some_inj h
  exact FinS.fin (End.cell rfl rfl rfl rfl rfl)

theorem r34 (a0 : T_whole_Int) (r : Int) (h : whole_Int_Sign a0 = some r) : Fn Try.prog 34 [.agg (c_whole_Int a0)] (.int .i64 r) := by
 unfold whole_Int_Sign at h
 refine Fn.ofS hm Try.func34 t34 (Nat.le_of_ble_eq_true rfl) ?_
 refine rs ?_
 refine ro ?_
 refine oc ?_
 refine S.box rfl rfl rfl rfl ?_
 refine oc ?_
 refine S.move rfl ?_
 refine oz ?_
 refine rs ?_
 refine Run.block ?_
 refine rs ?_
 refine ro ?_
 refine oc ?_
 refine S.faddrP rfl rfl ?_
 refine oc ?_
 refine S.loadP rfl rfl rfl ?_
 obtain ⟨v1, h_v1, h⟩ := bnd_some h
 refine oc ?_
 refine S.call (And.intro rfl rfl) (r53 a0.1 _ h_v1) rfl ?_
 refine oc ?_
 refine S.move rfl ?_
 refine oz ?_
 rcases ite_some h with ⟨hc, h⟩ | ⟨hc, h⟩
 ·refine Run.setB (t := 3) rfl hc ?_
  refine Run.condT rfl ?_
  refine rs ?_
  refine ro ?_
  refine oc ?_
  refine S.move rfl ?_
  refine oz ?_
  refine Run.ret ?_
  obtain rfl := some_inj h
  exact FinS.fin (End.tmp rfl rfl rfl)
 ·refine Run.setB (t := 3) rfl hc ?_
  refine Run.condF rfl ?_
  refine rs ?_
  refine ro ?_
  refine oc ?_
  refine S.faddrP rfl rfl ?_
  refine oc ?_
  refine S.loadP rfl rfl rfl ?_
  refine oc ?_
  refine S.move rfl ?_
  refine oz ?_
  rcases ite_some h with ⟨hc, h⟩ | ⟨hc, h⟩
  ·refine Run.setB (t := 7) rfl hc ?_
   refine Run.condT rfl ?_
   refine rs ?_
   refine ro ?_
   refine oc ?_
   refine S.move rfl ?_
   refine oz ?_
   refine Run.cutJ (J := fun st => Is [(2, .int .i64 (-1))] [] st) ⟨⟨rfl, trivial⟩, trivial⟩ ?_
   rintro st hI
   have hI : Is _ _ _ := hI
   revert hI
   refine fun hI => hI.elim ?_
   intro e H
   refine Run.ret ?_
   obtain rfl := some_inj h
   exact FinS.fin (End.tmp rfl rfl rfl)
  ·refine Run.setB (t := 7) rfl hc ?_
   refine Run.condF rfl ?_
   refine Run.skip ?_
   refine rs ?_
   refine ro ?_
   refine oc ?_
   refine S.move rfl ?_
   refine oz ?_
   refine Run.cutJ (J := fun st => Is [(2, .int .i64 1)] [] st) ⟨⟨rfl, trivial⟩, trivial⟩ ?_
   rintro st hI
   have hI : Is _ _ _ := hI
   revert hI
   refine fun hI => hI.elim ?_
   intro e H
   refine Run.ret ?_
   obtain rfl := some_inj h
   exact FinS.fin (End.tmp rfl rfl rfl)

theorem r15 (a0 : T_ratio_Rat) (r : Int) (h : ratio_Rat_Sign a0 = some r) : Fn Try.prog 15 [.agg (c_ratio_Rat a0)] (.int .i64 r) := by
 unfold ratio_Rat_Sign at h
 refine Fn.ofS hm Try.func15 t15 (Nat.le_of_ble_eq_true rfl) ?_
 refine rs ?_
 refine ro ?_
 refine oc ?_
 refine S.box rfl rfl rfl rfl ?_
 refine oc ?_
 refine S.move rfl ?_
 refine oz ?_
 refine rs ?_
 refine ro ?_
 refine oc ?_
 refine S.faddrP rfl rfl ?_
 refine oc ?_
 refine S.loadP rfl rfl rfl ?_
 obtain ⟨v1, h_v1, h⟩ := bnd_some h
 refine oc ?_
 refine S.call (And.intro rfl rfl) (r34 a0.1 _ h_v1) rfl ?_
 refine oc ?_
 refine S.move rfl ?_
 refine oz ?_
 refine Run.ret ?_
 obtain rfl := some_inj h
 exact FinS.fin (End.tmp rfl rfl rfl)

theorem r65 (a0 : T_whole_Int) (r : T_whole_Int) (h : whole_Int_Minus a0 = some r) : Fn Try.prog 65 [.agg (c_whole_Int a0)] (.agg (c_whole_Int r)) := by
 unfold whole_Int_Minus at h
 refine Fn.ofS hm Try.func65 t65 (Nat.le_of_ble_eq_true rfl) ?_
 refine rs ?_
 refine ro ?_
 refine oc ?_
 refine S.box rfl rfl rfl rfl ?_
 refine oc ?_
 refine S.alloc rfl ?_
 refine oz ?_
 refine rs ?_
 refine ro ?_
 refine oc ?_
 refine S.faddrP rfl rfl ?_
 refine oc ?_
 refine S.loadP rfl rfl rfl ?_
 refine oc ?_
 refine S.not rfl rfl ?_
 refine oc ?_
 refine S.faddrP rfl rfl ?_
 refine oc ?_
 refine S.loadP rfl rfl rfl ?_
 obtain ⟨v1, h_v1, h⟩ := bnd_some h
 refine oc ?_
 refine S.call (And.intro rfl rfl) (r43 (!a0.2) a0.1 _ h_v1) rfl ?_
 refine oc ?_
 refine S.storeP rfl rfl rfl rfl rfl rfl (Nat.le_of_ble_eq_true rfl) rfl ?_
 refine oz ?_
 refine Run.ret ?_
 obtain rfl := some_inj h
 exact FinS.fin (End.cell rfl rfl rfl rfl rfl)

theorem r45 (a0 : T_ratio_Rat) (r : T_ratio_Rat) (h : ratio_Rat_Minus a0 = some r) : Fn Try.prog 45 [.agg (c_ratio_Rat a0)] (.agg (c_ratio_Rat r)) := by
 unfold ratio_Rat_Minus at h
 refine Fn.ofS hm Try.func45 t45 (Nat.le_of_ble_eq_true rfl) ?_
 refine rs ?_
 refine ro ?_
 refine oc ?_
 refine S.box rfl rfl rfl rfl ?_
 refine oc ?_
 refine S.alloc rfl ?_
 refine oz ?_
 refine rs ?_
 refine Run.drawn ?_
 refine d0 rfl ?_
 refine S.faddrP rfl rfl ?_
 refine d1 (x := (_, _)) rfl rfl ?_
 refine S.loadP rfl rfl rfl ?_
 obtain ⟨v1, h_v1, h⟩ := bnd_some h
 refine d1 (x := (_, _)) rfl rfl ?_
 refine S.call (And.intro rfl rfl) (r65 a0.1 _ h_v1) rfl ?_
 refine d1 (x := (_, _)) rfl rfl ?_
 refine S.loadP rfl rfl rfl ?_
 obtain ⟨v2, h_v2, h⟩ := bnd_some h
 refine d1 (x := (_, _)) rfl rfl ?_
 refine S.call (And.intro rfl rfl) (r37 a0 _ h_v2) rfl ?_
 refine d0 rfl ?_
 refine S.build (And.intro rfl rfl) (And.intro rfl (And.intro rfl (And.intro (Nat.le_of_ble_eq_true rfl) (And.intro rfl (And.intro rfl (And.intro (Nat.le_of_ble_eq_true rfl) rfl)))))) ?_
 refine d1 (x := (_, _)) rfl rfl ?_
 refine S.storeP rfl rfl rfl rfl rfl rfl (Nat.le_of_ble_eq_true rfl) rfl ?_
 refine DrawR.nil ?_
 refine Run.ret ?_
 obtain rfl := some_inj h
 exact FinS.fin (End.cell rfl rfl rfl rfl rfl)

theorem r46 (a0 : T_ratio_Rat) (a1 : T_ratio_Rat) (r : T_ratio_Rat × Bool) (h : ratio_Rat_By a0 a1 = some r) : Fn Try.prog 46 [.agg (c_ratio_Rat a0), .agg (c_ratio_Rat a1)] (.tup [.agg (c_ratio_Rat r.1), .bool r.2]) := by
 unfold ratio_Rat_By at h
 refine Fn.ofS hm Try.func46 t46 (Nat.le_of_ble_eq_true rfl) ?_
 refine rs ?_
 refine ro ?_
 refine oc ?_
 refine S.box rfl rfl rfl rfl ?_
 refine oc ?_
 refine S.box rfl rfl rfl rfl ?_
 refine oc ?_
 refine S.alloc rfl ?_
 refine oc ?_
 refine S.move rfl ?_
 refine oz ?_
 refine rs ?_
 refine Run.drawn ?_
 refine d0 rfl ?_
 refine S.faddrP rfl rfl ?_
 refine d1 (x := (_, _)) rfl rfl ?_
 refine S.loadP rfl rfl rfl ?_
 refine d1 (x := (_, _)) rfl rfl ?_
 refine S.loadP rfl rfl rfl ?_
 obtain ⟨v1, h_v1, h⟩ := bnd_some h
 refine d1 (x := (_, _)) rfl rfl ?_
 refine S.call (And.intro rfl rfl) (r28 a1 _ h_v1) rfl ?_
 refine d1 (x := (_, _)) rfl rfl ?_
 refine S.buildSlM (c := c_whole_Int) (l := ([v1] : List T_whole_Int)) (And.intro rfl rfl) rfl rfl rfl ?_
 obtain ⟨v2, h_v2, h⟩ := bnd_some h
 refine d2 (x := (_, _)) (y := (_, _)) rfl rfl ?_
 refine S.call (And.intro rfl (And.intro rfl (And.intro rfl (And.intro rfl rfl)))) (r27 a0.1 ([v1] : List T_whole_Int) _ h_v2) rfl ?_
 refine d1 (x := (_, _)) rfl rfl ?_
 refine S.loadP rfl rfl rfl ?_
 obtain ⟨v3, h_v3, h⟩ := bnd_some h
 refine d1 (x := (_, _)) rfl rfl ?_
 refine S.call (And.intro rfl rfl) (r28 a0 _ h_v3) rfl ?_
 refine d0 rfl ?_
 refine S.faddrP rfl rfl ?_
 refine d1 (x := (_, _)) rfl rfl ?_
 refine S.loadP rfl rfl rfl ?_
 refine d1 (x := (_, _)) rfl rfl ?_
 refine S.buildSlM (c := c_whole_Int) (l := ([a1.1] : List T_whole_Int)) (And.intro rfl rfl) rfl rfl rfl ?_
 obtain ⟨v4, h_v4, h⟩ := bnd_some h
 refine d2 (x := (_, _)) (y := (_, _)) rfl rfl ?_
 refine S.call (And.intro rfl (And.intro rfl (And.intro rfl (And.intro rfl rfl)))) (r27 v3 ([a1.1] : List T_whole_Int) _ h_v4) rfl ?_
 obtain ⟨v5, h_v5, h⟩ := bnd_some h
 refine d1 (x := (_, _)) rfl rfl ?_
 refine S.call (And.intro rfl rfl) (r30 v2 v4 _ h_v5) rfl ?_
 refine d0 rfl ?_
 refine S.extract rfl rfl ?_
 refine d0 rfl ?_
 refine S.extract rfl rfl ?_
 refine d1 (x := (_, _)) rfl rfl ?_
 refine S.storeP rfl rfl rfl rfl rfl rfl (Nat.le_of_ble_eq_true rfl) rfl ?_
 refine d0 rfl ?_
 refine S.move rfl ?_
 refine DrawR.nil ?_
 refine Run.cutJ (J := fun st => ∃ g4 : Nat, Is [(4, .ptr 4 g4 0), (5, .bool v5.2)] [(4, g4, some (.box [.sl (List.map c_u32 v5.1.1.1), .bool v5.1.1.2, .sl (List.map c_u32 v5.1.2)]))] st) ⟨_, ⟨rfl, rfl, trivial⟩, ⟨rfl, trivial⟩⟩ ?_
 rintro st ⟨g4, hI⟩
 have hI : Is _ _ _ := hI
 revert hI
 refine fun hI => hI.elim ?_
 intro e H
 refine Run.ret ?_
 obtain rfl := some_inj h
 exact FinS.fin (End.all (And.intro rfl rfl))

theorem r66 (a0 : T_whole_Int) (r : T_ratio_Rat) (h : ratio_Whole a0 = some r) : Fn Try.prog 66 [.agg (c_whole_Int a0)] (.agg (c_ratio_Rat r)) := by
 unfold ratio_Whole at h
 refine Fn.ofS hm Try.func66 t66 (Nat.le_of_ble_eq_true rfl) ?_
 refine rs ?_
 refine ro ?_
 refine oc ?_
 refine S.box rfl rfl rfl rfl ?_
 refine oc ?_
 refine S.alloc rfl ?_
 refine oz ?_
 refine rs ?_
 refine Run.drawn ?_
 refine d1 (x := (_, _)) rfl rfl ?_
 refine S.loadP rfl rfl rfl ?_
 obtain ⟨v1, h_v1, h⟩ := bnd_some h
 refine d1 (x := (_, _)) rfl rfl ?_
 refine S.call (And.intro rfl rfl) (r33 1 _ h_v1) rfl ?_
 refine d0 rfl ?_
 refine S.build (And.intro rfl rfl) (And.intro rfl (And.intro rfl (And.intro (Nat.le_of_ble_eq_true rfl) (And.intro rfl (And.intro rfl (And.intro (Nat.le_of_ble_eq_true rfl) rfl)))))) ?_
 refine d1 (x := (_, _)) rfl rfl ?_
 refine S.storeP rfl rfl rfl rfl rfl rfl (Nat.le_of_ble_eq_true rfl) rfl ?_
 refine DrawR.nil ?_
 refine Run.ret ?_
 obtain rfl := some_inj h
 exact FinS.fin (End.cell rfl rfl rfl rfl rfl)

theorem r72 (a0 : T_whole_Int) (a1 : T_whole_Int) (r : T_whole_Int × T_whole_Int × Bool) (h : whole_Int_Floor a0 a1 = some r) : Fn Try.prog 72 [.agg (c_whole_Int a0), .agg (c_whole_Int a1)] (.tup [.agg (c_whole_Int r.1), .agg (c_whole_Int r.2.1), .bool r.2.2]) := by
 unfold whole_Int_Floor at h
 refine Fn.ofS hm Try.func72 t72 (Nat.le_of_ble_eq_true rfl) ?_
 refine rs ?_
 refine ro ?_
 refine oc ?_
 refine S.box rfl rfl rfl rfl ?_
 refine oc ?_
 refine S.box rfl rfl rfl rfl ?_
 refine oc ?_
 refine S.alloc rfl ?_
 refine oc ?_
 refine S.alloc rfl ?_
 refine oc ?_
 refine S.move rfl ?_
 refine oz ?_
 refine rs ?_
 refine ro ?_
 refine oc ?_
 refine S.faddrP rfl rfl ?_
 refine oc ?_
 refine S.loadP rfl rfl rfl ?_
 refine oc ?_
 refine S.faddrP rfl rfl ?_
 refine oc ?_
 refine S.loadP rfl rfl rfl ?_
 obtain ⟨v1, h_v1, h⟩ := bnd_some h
 refine oc ?_
 refine S.call (And.intro rfl rfl) (r56 a0.1 a1.1 _ h_v1) rfl ?_
 refine oc ?_
 refine S.move rfl ?_
 refine oc ?_
 refine S.extract rfl rfl ?_
 refine oc ?_
 refine S.extract rfl rfl ?_
 refine oc ?_
 refine S.extract rfl rfl ?_
 refine oc ?_
 refine S.alloc rfl ?_
 refine oc ?_
 refine S.alloc rfl ?_
 refine oc ?_
 refine S.storeP rfl rfl rfl rfl rfl rfl (Nat.le_of_ble_eq_true rfl) rfl ?_
 refine oc ?_
 refine S.storeP rfl rfl rfl rfl rfl rfl (Nat.le_of_ble_eq_true rfl) rfl ?_
 refine oc ?_
 refine S.move rfl ?_
 refine oz ?_
 refine Run.cutJ (J := fun st => ∃ g2 g3 g4 g5 g7 g8 : Nat, Is [(2, .ptr 2 g2 0), (3, .ptr 3 g3 0), (4, .ptr 4 g4 0), (5, .ptr 5 g5 0), (7, .ptr 7 g7 0), (8, .ptr 8 g8 0), (9, .bool v1.2.2)] [(2, g2, some (.box [.sl (List.map c_u32 a0.1), .bool a0.2])), (3, g3, some (.box [.sl (List.map c_u32 a1.1), .bool a1.2])), (4, g4, some (.box [.nil, .bool false])), (5, g5, some (.box [.nil, .bool false])), (7, g7, some (.box [.sl (List.map c_u32 v1.1)])), (8, g8, some (.box [.sl (List.map c_u32 v1.2.1)]))] st) ⟨_, _, _, _, _, _, ⟨rfl, rfl, rfl, rfl, rfl, rfl, rfl, trivial⟩, ⟨rfl, rfl, rfl, rfl, rfl, rfl, trivial⟩⟩ ?_
 rintro st ⟨g2, g3, g4, g5, g7, g8, hI⟩
 have hI : Is _ _ _ := hI
 revert hI
 refine fun hI => hI.elim ?_
 intro e H
 refine rs ?_
 refine rs ?_
 refine ro ?_
 refine oc ?_
 refine S.move rfl ?_
 refine oc ?_
 refine S.not rfl rfl ?_
 refine oz ?_
 rcases ite_some h with ⟨hc, h⟩ | ⟨hc, h⟩
 ·refine Run.setB (t := 22) rfl hc ?_
  refine Run.condT rfl ?_
  refine rs ?_
  refine ro ?_
  refine oc ?_
  refine S.build (And.intro rfl rfl) rfl ?_
  refine oc ?_
  refine S.build (And.intro rfl rfl) rfl ?_
  refine oc ?_
  refine S.storeP rfl rfl rfl rfl rfl rfl (Nat.le_of_ble_eq_true rfl) rfl ?_
  refine oc ?_
  refine S.storeP rfl rfl rfl rfl rfl rfl (Nat.le_of_ble_eq_true rfl) rfl ?_
  refine oc ?_
  refine S.move rfl ?_
  refine oz ?_
  refine Run.ret ?_
  obtain rfl := some_inj h
  exact FinS.fin (End.all (And.intro rfl (And.intro rfl rfl)))
 ·refine Run.setB (t := 22) rfl hc ?_
  refine Run.condF rfl ?_
  refine Run.skip ?_
  refine rs ?_
  refine rs ?_
  refine ro ?_
  refine oc ?_
  refine S.faddrP rfl rfl ?_
  refine oc ?_
  refine S.loadP rfl rfl rfl ?_
  refine oc ?_
  refine S.faddrP rfl rfl ?_
  refine oc ?_
  refine S.loadP rfl rfl rfl ?_
  refine oc ?_
  refine S.binB rfl rfl rfl ?_
  refine oc ?_
  refine S.move rfl ?_
  obtain ⟨x3, hx, h⟩ := bnd_some h
  refine OpsR.splitAt 3 (J := fun st => ∃ g2 g3 g4 g5 g7 g8 : Nat, Is [(2, .ptr 2 g2 0), (3, .ptr 3 g3 0), (4, .ptr 4 g4 0), (5, .ptr 5 g5 0), (7, .ptr 7 g7 0), (8, .ptr 8 g8 0), (33, .bool x3)] [(2, g2, some (.box [.sl (List.map c_u32 a0.1), .bool a0.2])), (3, g3, some (.box [.sl (List.map c_u32 a1.1), .bool a1.2])), (4, g4, some (.box [.nil, .bool false])), (5, g5, some (.box [.nil, .bool false])), (7, g7, some (.box [.sl (List.map c_u32 v1.1)])), (8, g8, some (.box [.sl (List.map c_u32 v1.2.1)]))] st) ?_ ?_
  ·replace h := hx
   rcases ite_some h with ⟨hc, h⟩ | ⟨hc, h⟩
   ·refine OpsR.setB (t := 30) rfl hc ?_
    refine oc ?_
    refine S.off rfl (by decide) ?_
    refine oc ?_
    refine S.off rfl (by decide) ?_
    refine oc ?_
    refine S.pick rfl rfl rfl rfl ?_
    obtain rfl := some_inj h
    refine oz ?_
    exact ⟨_, _, _, _, _, _, ⟨rfl, rfl, rfl, rfl, rfl, rfl, rfl, trivial⟩, ⟨rfl, rfl, rfl, rfl, rfl, rfl, trivial⟩⟩
   ·refine OpsR.setB (t := 30) rfl hc ?_
    refine oc ?_
    refine S.on rfl ?_
    refine S.loadP rfl rfl rfl ?_
    obtain ⟨v2, h_v2, h⟩ := bnd_some h
    refine oc ?_
    refine S.on rfl ?_
    refine S.call (And.intro rfl rfl) (r53 v1.2.1 _ h_v2) rfl ?_
    refine oc ?_
    refine S.pick rfl rfl rfl rfl ?_
    obtain rfl := some_inj h
    refine oz ?_
    exact ⟨_, _, _, _, _, _, ⟨rfl, rfl, rfl, rfl, rfl, rfl, rfl, trivial⟩, ⟨rfl, rfl, rfl, rfl, rfl, rfl, trivial⟩⟩
  ·rintro st ⟨g2, g3, g4, g5, g7, g8, hI⟩
   have hI : Is _ _ _ := hI
   revert hI
   refine fun hI => hI.elim ?_
   intro e H
   refine oz ?_
   rcases ite_some h with ⟨hc, h⟩ | ⟨hc, h⟩
   ·refine Run.setB (t := 33) rfl hc ?_
    refine Run.condT rfl ?_
    refine rs ?_
    refine Run.drawn ?_
    refine d0 rfl ?_
    refine S.faddrP rfl rfl ?_
    refine d1 (x := (_, _)) rfl rfl ?_
    refine S.loadP rfl rfl rfl ?_
    refine d0 rfl ?_
    refine S.faddrP rfl rfl ?_
    refine d1 (x := (_, _)) rfl rfl ?_
    refine S.loadP rfl rfl rfl ?_
    refine d0 rfl ?_
    refine S.binB rfl rfl rfl ?_
    refine d1 (x := (_, _)) rfl rfl ?_
    refine S.loadP rfl rfl rfl ?_
    obtain ⟨v4, h_v4, h⟩ := bnd_some h
    refine d1 (x := (_, _)) rfl rfl ?_
    refine S.call (And.intro rfl rfl) (r43 (!(a0.2 == a1.2)) v1.1 _ h_v4) rfl ?_
    refine d0 rfl ?_
    refine S.faddrP rfl rfl ?_
    refine d1 (x := (_, _)) rfl rfl ?_
    refine S.loadP rfl rfl rfl ?_
    refine d1 (x := (_, _)) rfl rfl ?_
    refine S.loadP rfl rfl rfl ?_
    obtain ⟨v5, h_v5, h⟩ := bnd_some h
    refine d1 (x := (_, _)) rfl rfl ?_
    refine S.call (And.intro rfl rfl) (r43 a1.2 v1.2.1 _ h_v5) rfl ?_
    refine d1 (x := (_, _)) rfl rfl ?_
    refine S.storeP rfl rfl rfl rfl rfl rfl (Nat.le_of_ble_eq_true rfl) rfl ?_
    refine d1 (x := (_, _)) rfl rfl ?_
    refine S.storeP rfl rfl rfl rfl rfl rfl (Nat.le_of_ble_eq_true rfl) rfl ?_
    refine d0 rfl ?_
    refine S.move rfl ?_
    refine DrawR.nil ?_
    refine Run.cutJ (J := fun st => ∃ g4 g5 : Nat, Is [(4, .ptr 4 g4 0), (5, .ptr 5 g5 0), (6, .bool true)] [(4, g4, some (.box [.sl (List.map c_u32 v4.1), .bool v4.2])), (5, g5, some (.box [.sl (List.map c_u32 v5.1), .bool v5.2]))] st) ⟨_, _, ⟨rfl, rfl, rfl, trivial⟩, ⟨rfl, rfl, trivial⟩⟩ ?_
    rintro st ⟨g4, g5, hI⟩
    have hI : Is _ _ _ := hI
    revert hI
    refine fun hI => hI.elim ?_
    intro e H
    refine Run.ret ?_
    obtain rfl := some_inj h
    exact FinS.fin (End.all (And.intro rfl (And.intro rfl rfl)))
   ·refine Run.setB (t := 33) rfl hc ?_
    refine Run.condF rfl ?_
    refine Run.skip ?_
    refine rs ?_
    refine ro ?_
    refine oc ?_
    refine S.faddrP rfl rfl ?_
    refine oc ?_
    refine S.loadP rfl rfl rfl ?_
    refine oc ?_
    refine S.loadP rfl rfl rfl ?_
    obtain ⟨v6, h_v6, h⟩ := bnd_some h
    refine oc ?_
    refine S.call (And.intro rfl rfl) (r75 a1.1 v1.2.1 _ h_v6) rfl ?_
    refine oc ?_
    refine S.move rfl ?_
    refine oc ?_
    refine S.extract rfl rfl ?_
    refine oc ?_
    refine S.extract rfl rfl ?_
    refine oc ?_
    refine S.alloc rfl ?_
    refine oc ?_
    refine S.storeP rfl rfl rfl rfl rfl rfl (Nat.le_of_ble_eq_true rfl) rfl ?_
    refine oc ?_
    refine S.move rfl ?_
    refine oz ?_
    refine rs ?_
    refine Run.drawn ?_
    refine d1 (x := (_, _)) rfl rfl ?_
    refine S.loadP rfl rfl rfl ?_
    obtain ⟨v7, h_v7, h⟩ := bnd_some h
    refine d1 (x := (_, _)) rfl rfl ?_
    refine S.call (And.intro rfl rfl) (r33 1 _ h_v7) rfl ?_
    obtain ⟨v8, h_v8, h⟩ := bnd_some h
    refine d1 (x := (_, _)) rfl rfl ?_
    refine S.call (And.intro rfl rfl) (r62 v1.1 v7 _ h_v8) rfl ?_
    obtain ⟨v9, h_v9, h⟩ := bnd_some h
    refine d1 (x := (_, _)) rfl rfl ?_
    refine S.call (And.intro rfl rfl) (r43 true v8 _ h_v9) rfl ?_
    refine d0 rfl ?_
    refine S.faddrP rfl rfl ?_
    refine d1 (x := (_, _)) rfl rfl ?_
    refine S.loadP rfl rfl rfl ?_
    refine d1 (x := (_, _)) rfl rfl ?_
    refine S.loadP rfl rfl rfl ?_
    obtain ⟨v10, h_v10, h⟩ := bnd_some h
    refine d1 (x := (_, _)) rfl rfl ?_
    refine S.call (And.intro rfl rfl) (r43 a1.2 v6.1 _ h_v10) rfl ?_
    refine d1 (x := (_, _)) rfl rfl ?_
    refine S.storeP rfl rfl rfl rfl rfl rfl (Nat.le_of_ble_eq_true rfl) rfl ?_
    refine d1 (x := (_, _)) rfl rfl ?_
    refine S.storeP rfl rfl rfl rfl rfl rfl (Nat.le_of_ble_eq_true rfl) rfl ?_
    refine d0 rfl ?_
    refine S.move rfl ?_
    refine DrawR.nil ?_
    refine Run.cutJ (J := fun st => ∃ g4 g5 : Nat, Is [(4, .ptr 4 g4 0), (5, .ptr 5 g5 0), (6, .bool true)] [(4, g4, some (.box [.sl (List.map c_u32 v9.1), .bool v9.2])), (5, g5, some (.box [.sl (List.map c_u32 v10.1), .bool v10.2]))] st) ⟨_, _, ⟨rfl, rfl, rfl, trivial⟩, ⟨rfl, rfl, trivial⟩⟩ ?_
    rintro st ⟨g4, g5, hI⟩
    have hI : Is _ _ _ := hI
    revert hI
    refine fun hI => hI.elim ?_
    intro e H
    refine Run.ret ?_
    obtain rfl := some_inj h
    exact FinS.fin (End.all (And.intro rfl (And.intro rfl rfl)))

theorem r67 (a0 : T_ratio_Rat) (r : T_whole_Int) (h : ratio_Rat_Floor a0 = some r) : Fn Try.prog 67 [.agg (c_ratio_Rat a0)] (.agg (c_whole_Int r)) := by
 unfold ratio_Rat_Floor at h
 refine Fn.ofS hm Try.func67 t67 (Nat.le_of_ble_eq_true rfl) ?_
 refine rs ?_
 refine ro ?_
 refine oc ?_
 refine S.box rfl rfl rfl rfl ?_
 refine oc ?_
 refine S.alloc rfl ?_
 refine oz ?_
 refine rs ?_
 refine Run.drawn ?_
 refine d0 rfl ?_
 refine S.faddrP rfl rfl ?_
 refine d1 (x := (_, _)) rfl rfl ?_
 refine S.loadP rfl rfl rfl ?_
 refine d1 (x := (_, _)) rfl rfl ?_
 refine S.loadP rfl rfl rfl ?_
 obtain ⟨v1, h_v1, h⟩ := bnd_some h
 refine d1 (x := (_, _)) rfl rfl ?_
 refine S.call (And.intro rfl rfl) (r28 a0 _ h_v1) rfl ?_
 obtain ⟨v2, h_v2, h⟩ := bnd_some h
 refine d1 (x := (_, _)) rfl rfl ?_
 refine S.call (And.intro rfl rfl) (r72 a0.1 v1 _ h_v2) rfl ?_
 refine d0 rfl ?_
 refine S.move rfl ?_
 refine d0 rfl ?_
 refine S.extract rfl rfl ?_
 refine d0 rfl ?_
 refine S.extract rfl rfl ?_
 refine d0 rfl ?_
 refine S.extract rfl rfl ?_
 refine d1 (x := (_, _)) rfl rfl ?_
 refine S.alloc rfl ?_
 refine d1 (x := (_, _)) rfl rfl ?_
 refine S.alloc rfl ?_
 refine d1 (x := (_, _)) rfl rfl ?_
 refine S.storeP rfl rfl rfl rfl rfl rfl (Nat.le_of_ble_eq_true rfl) rfl ?_
 refine d1 (x := (_, _)) rfl rfl ?_
 refine S.storeP rfl rfl rfl rfl rfl rfl (Nat.le_of_ble_eq_true rfl) rfl ?_
 refine d0 rfl ?_
 refine S.move rfl ?_
 refine DrawR.nil ?_
 refine Run.cutJ (J := fun st => ∃ g2 g3 : Nat, Is [(2, .ptr 2 g2 0), (3, .ptr 3 g3 0)] [(2, g2, some (.box [.nil, .bool false])), (3, g3, some (.box [.sl (List.map c_u32 v2.1.1), .bool v2.1.2]))] st) ⟨_, _, ⟨rfl, rfl, trivial⟩, ⟨rfl, rfl, trivial⟩⟩ ?_
 rintro st ⟨g2, g3, hI⟩
 have hI : Is _ _ _ := hI
 revert hI
 refine fun hI => hI.elim ?_
 intro e H
 refine rs ?_
 refine ro ?_
 refine oc ?_
 refine S.loadP rfl rfl rfl ?_
 refine oc ?_
 refine S.storeP rfl rfl rfl rfl rfl rfl (Nat.le_of_ble_eq_true rfl) rfl ?_
 refine oz ?_
 refine Run.ret ?_
 obtain rfl := some_inj h
 exact FinS.fin (End.cell rfl rfl rfl rfl rfl)

theorem r47 (a0 : T_ratio_Rat) (a1 : T_ratio_Rat) (r : T_ratio_Rat) (h : ratio_Rat_Rest a0 a1 = some r) : Fn Try.prog 47 [.agg (c_ratio_Rat a0), .agg (c_ratio_Rat a1)] (.agg (c_ratio_Rat r)) := by
 unfold ratio_Rat_Rest at h
 refine Fn.ofS hm Try.func47 t47 (Nat.le_of_ble_eq_true rfl) ?_
 refine rs ?_
 refine ro ?_
 refine oc ?_
 refine S.box rfl rfl rfl rfl ?_
 refine oc ?_
 refine S.box rfl rfl rfl rfl ?_
 refine oc ?_
 refine S.alloc rfl ?_
 refine oz ?_
 refine rs ?_
 refine ro ?_
 refine oc ?_
 refine S.loadP rfl rfl rfl ?_
 refine oc ?_
 refine S.loadP rfl rfl rfl ?_
 obtain ⟨v1, h_v1, h⟩ := bnd_some h
 refine oc ?_
 refine S.call (And.intro rfl rfl) (r46 a1 a0 _ h_v1) rfl ?_
 refine oc ?_
 refine S.move rfl ?_
 refine oc ?_
 refine S.extract rfl rfl ?_
 refine oc ?_
 refine S.extract rfl rfl ?_
 refine oc ?_
 refine S.alloc rfl ?_
 refine oc ?_
 refine S.storeP rfl rfl rfl rfl rfl rfl (Nat.le_of_ble_eq_true rfl) rfl ?_
 refine oc ?_
 refine S.move rfl ?_
 refine oz ?_
 refine Run.cutJ (J := fun st => ∃ g2 g3 g4 g5 : Nat, Is [(2, .ptr 2 g2 0), (3, .ptr 3 g3 0), (4, .ptr 4 g4 0), (5, .ptr 5 g5 0), (6, .bool v1.2)] [(2, g2, some (.box [.sl (List.map c_u32 a0.1.1), .bool a0.1.2, .sl (List.map c_u32 a0.2)])), (3, g3, some (.box [.sl (List.map c_u32 a1.1.1), .bool a1.1.2, .sl (List.map c_u32 a1.2)])), (4, g4, some (.box [.nil, .bool false, .nil])), (5, g5, some (.box [.sl (List.map c_u32 v1.1.1.1), .bool v1.1.1.2, .sl (List.map c_u32 v1.1.2)]))] st) ⟨_, _, _, _, ⟨rfl, rfl, rfl, rfl, rfl, trivial⟩, ⟨rfl, rfl, rfl, rfl, trivial⟩⟩ ?_
 rintro st ⟨g2, g3, g4, g5, hI⟩
 have hI : Is _ _ _ := hI
 revert hI
 refine fun hI => hI.elim ?_
 intro e H
 refine rs ?_
 refine rs ?_
 refine ro ?_
 refine oc ?_
 refine S.move rfl ?_
 refine oc ?_
 refine S.not rfl rfl ?_
 refine oz ?_
 rcases ite_some h with ⟨hc, h⟩ | ⟨hc, h⟩
 ·refine Run.setB (t := 14) rfl hc ?_
  refine Run.condT rfl ?_
  refine rs ?_
  refine ro ?_
  refine oc ?_
  refine S.loadP rfl rfl rfl ?_
  refine oc ?_
  refine S.storeP rfl rfl rfl rfl rfl rfl (Nat.le_of_ble_eq_true rfl) rfl ?_
  refine oz ?_
  refine Run.ret ?_
  obtain rfl := some_inj h
  exact FinS.fin (End.cell rfl rfl rfl rfl rfl)
 ·refine Run.setB (t := 14) rfl hc ?_
  refine Run.condF rfl ?_
  refine Run.skip ?_
  refine rs ?_
  refine Run.drawn ?_
  refine d1 (x := (_, _)) rfl rfl ?_
  refine S.loadP rfl rfl rfl ?_
  refine d1 (x := (_, _)) rfl rfl ?_
  refine S.loadP rfl rfl rfl ?_
  refine d1 (x := (_, _)) rfl rfl ?_
  refine S.loadP rfl rfl rfl ?_
  obtain ⟨v2, h_v2, h⟩ := bnd_some h
  refine d1 (x := (_, _)) rfl rfl ?_
  refine S.call (And.intro rfl rfl) (r67 v1.1 _ h_v2) rfl ?_
  obtain ⟨v3, h_v3, h⟩ := bnd_some h
  refine d1 (x := (_, _)) rfl rfl ?_
  refine S.call (And.intro rfl rfl) (r66 v2 _ h_v3) rfl ?_
  refine d1 (x := (_, _)) rfl rfl ?_
  refine S.buildSlM (c := c_ratio_Rat) (l := ([v3] : List T_ratio_Rat)) (And.intro rfl rfl) rfl rfl rfl ?_
  obtain ⟨v4, h_v4, h⟩ := bnd_some h
  refine d2 (x := (_, _)) (y := (_, _)) rfl rfl ?_
  refine S.call (And.intro rfl (And.intro rfl (And.intro rfl (And.intro rfl rfl)))) (r14 a0 ([v3] : List T_ratio_Rat) _ h_v4) rfl ?_
  obtain ⟨v5, h_v5, h⟩ := bnd_some h
  refine d1 (x := (_, _)) rfl rfl ?_
  refine S.call (And.intro rfl rfl) (r45 v4 _ h_v5) rfl ?_
  refine d1 (x := (_, _)) rfl rfl ?_
  refine S.buildSlM (c := c_ratio_Rat) (l := ([v5] : List T_ratio_Rat)) (And.intro rfl rfl) rfl rfl rfl ?_
  obtain ⟨v6, h_v6, h⟩ := bnd_some h
  refine d2 (x := (_, _)) (y := (_, _)) rfl rfl ?_
  refine S.call (And.intro rfl (And.intro rfl (And.intro rfl (And.intro rfl rfl)))) (r12 a1 ([v5] : List T_ratio_Rat) _ h_v6) rfl ?_
  refine d1 (x := (_, _)) rfl rfl ?_
  refine S.storeP rfl rfl rfl rfl rfl rfl (Nat.le_of_ble_eq_true rfl) rfl ?_
  refine DrawR.nil ?_
  refine Run.cutJ (J := fun st => ∃ g4 : Nat, Is [(4, .ptr 4 g4 0)] [(4, g4, some (.box [.sl (List.map c_u32 v6.1.1), .bool v6.1.2, .sl (List.map c_u32 v6.2)]))] st) ⟨_, ⟨rfl, trivial⟩, ⟨rfl, trivial⟩⟩ ?_
  rintro st ⟨g4, hI⟩
  have hI : Is _ _ _ := hI
  revert hI
  refine fun hI => hI.elim ?_
  intro e H
  refine Run.ret ?_
  obtain rfl := some_inj h
  exact FinS.fin (End.cell rfl rfl rfl rfl rfl)

theorem r68 (a0 : T_ratio_Rat) (r : Bool) (h : ratio_Rat_Limited a0 = some r) : Fn Try.prog 68 [.agg (c_ratio_Rat a0)] (.bool r) := by
 unfold ratio_Rat_Limited at h
 refine Fn.ofS hm Try.func68 t68 (Nat.le_of_ble_eq_true rfl) ?_
 refine rs ?_
 refine ro ?_
 refine oc ?_
 refine S.box rfl rfl rfl rfl ?_
 refine oc ?_
 refine S.move rfl ?_
 refine oz ?_
 refine rs ?_
 refine ro ?_
 refine oc ?_
 refine S.loadP rfl rfl rfl ?_
 obtain ⟨v1, h_v1, h⟩ := bnd_some h
 refine oc ?_
 refine S.call (And.intro rfl rfl) (r63 a0 _ h_v1) rfl ?_
 refine oc ?_
 refine S.move rfl ?_
 obtain ⟨x5, hx, h⟩ := bnd_some h
 refine OpsR.splitAt 11 (J := fun st => Is [(16, .bool x5)] [] st) ?_ ?_
 ·replace h := hx
  rcases ite_some h with ⟨hc, h⟩ | ⟨hc, h⟩
  ·refine OpsR.setB (t := 5) rfl hc ?_
   refine oc ?_
   refine S.on rfl ?_
   refine S.faddrP rfl rfl ?_
   refine oc ?_
   refine S.on rfl ?_
   refine S.faddrP rfl rfl ?_
   refine oc ?_
   refine S.on rfl ?_
   refine S.loadP rfl rfl rfl ?_
   obtain ⟨v2, h_v2, h⟩ := bnd_some h
   refine oc ?_
   refine S.on rfl ?_
   refine S.call (And.intro rfl rfl) (r53 a0.1.1 _ h_v2) rfl ?_
   refine oc ?_
   refine S.on rfl ?_
   refine S.move rfl ?_
   obtain ⟨x4, hx, h⟩ := bnd_some h
   refine OpsR.splitAt 5 (J := fun st => Is [(5, .bool true), (15, .bool x4)] [] st) ?_ ?_
   ·replace h := hx
    rcases ite_some h with ⟨hc, h⟩ | ⟨hc, h⟩
    ·refine OpsR.setB (t := 10) rfl hc ?_
     refine oc ?_
     refine S.off rfl (by decide) ?_
     refine oc ?_
     refine S.off rfl (by decide) ?_
     refine oc ?_
     refine S.off rfl (by decide) ?_
     refine oc ?_
     refine S.off rfl (by decide) ?_
     refine oc ?_
     refine S.on rfl ?_
     refine S.pick rfl rfl rfl rfl ?_
     obtain rfl := some_inj h
     refine oz ?_
     exact ⟨⟨rfl, rfl, trivial⟩, trivial⟩
    ·refine OpsR.setB (t := 10) rfl hc ?_
     refine oc ?_
     refine S.on rfl ?_
     refine S.faddrP rfl rfl ?_
     refine oc ?_
     refine S.on rfl ?_
     refine S.faddrP rfl rfl ?_
     refine oc ?_
     refine S.on rfl ?_
     refine S.loadP rfl rfl rfl ?_
     obtain ⟨v3, h_v3, h⟩ := bnd_some h
     refine oc ?_
     refine S.on rfl ?_
     refine S.call (And.intro rfl rfl) (r80 a0.1.1 _ h_v3) rfl ?_
     refine oc ?_
     refine S.on rfl ?_
     refine S.pick rfl rfl rfl rfl ?_
     obtain rfl := some_inj h
     refine oz ?_
     exact ⟨⟨rfl, rfl, trivial⟩, trivial⟩
   ·rintro st hI
    have hI : Is _ _ _ := hI
    revert hI
    refine fun hI => hI.elim ?_
    intro e H
    refine oc ?_
    refine S.pick rfl rfl rfl rfl ?_
    obtain rfl := some_inj h
    refine oz ?_
    exact ⟨⟨rfl, trivial⟩, trivial⟩
  ·refine OpsR.setB (t := 5) rfl hc ?_
   refine oc ?_
   refine S.off rfl (by decide) ?_
   refine oc ?_
   refine S.off rfl (by decide) ?_
   refine oc ?_
   refine S.off rfl (by decide) ?_
   refine oc ?_
   refine S.off rfl (by decide) ?_
   refine oc ?_
   refine S.off rfl (by decide) ?_
   refine oc ?_
   refine S.offN rfl ?_
   refine oc ?_
   refine S.offN rfl ?_
   refine oc ?_
   refine S.offN rfl ?_
   refine oc ?_
   refine S.offN rfl ?_
   refine oc ?_
   refine S.off rfl (by decide) ?_
   refine oc ?_
   refine S.pick rfl rfl rfl rfl ?_
   obtain rfl := some_inj h
   refine oz ?_
   exact ⟨⟨rfl, trivial⟩, trivial⟩
 ·rintro st hI
  have hI : Is _ _ _ := hI
  revert hI
  refine fun hI => hI.elim ?_
  intro e H
  refine oc ?_
  refine S.move rfl ?_
  refine oz ?_
  refine Run.ret ?_
  obtain rfl := some_inj h
  exact FinS.fin (End.tmp rfl rfl rfl)

theorem r69 (a0 : T_ratio_Rat) (r : T_whole_Int) (h : ratio_Rat_Top a0 = some r) : Fn Try.prog 69 [.agg (c_ratio_Rat a0)] (.agg (c_whole_Int r)) := by
 unfold ratio_Rat_Top at h
 refine Fn.ofS hm Try.func69 t69 (Nat.le_of_ble_eq_true rfl) ?_
 refine rs ?_
 refine ro ?_
 refine oc ?_
 refine S.box rfl rfl rfl rfl ?_
 refine oc ?_
 refine S.alloc rfl ?_
 refine oz ?_
 refine rs ?_
 refine ro ?_
 refine oc ?_
 refine S.faddrP rfl rfl ?_
 refine oc ?_
 refine S.loadP rfl rfl rfl ?_
 refine oc ?_
 refine S.storeP rfl rfl rfl rfl rfl rfl (Nat.le_of_ble_eq_true rfl) rfl ?_
 refine oz ?_
 refine Run.ret ?_
 obtain rfl := some_inj h
 exact FinS.fin (End.cell rfl rfl rfl rfl rfl)

theorem r70 (a0 : T_nat_Nat) (r : Bool) (h : nat_Nat_Even a0 = some r) : Fn Try.prog 70 [.agg (c_nat_Nat a0)] (.bool r) := by
 unfold nat_Nat_Even at h
 refine Fn.ofS hm Try.func70 t70 (Nat.le_of_ble_eq_true rfl) ?_
 refine rs ?_
 refine ro ?_
 refine oc ?_
 refine S.box rfl rfl rfl rfl ?_
 refine oc ?_
 refine S.move rfl ?_
 refine oz ?_
 refine rs ?_
 refine ro ?_
 refine oc ?_
 refine S.faddrP rfl rfl ?_
 refine oc ?_
 refine S.loadP rfl rfl rfl ?_
 refine oc ?_
 refine S.lenLM rfl ?_
 refine oc ?_
 refine S.eql rfl rfl rfl ?_
 refine oc ?_
 refine S.move rfl ?_
 obtain ⟨x2, hx, h⟩ := bnd_some h
 refine OpsR.splitAt 7 (J := fun st => Is [(14, .bool x2)] [] st) ?_ ?_
 ·replace h := hx
  rcases ite_some h with ⟨hc, h⟩ | ⟨hc, h⟩
  ·refine OpsR.setB (t := 7) rfl hc ?_
   refine oc ?_
   refine S.off rfl (by decide) ?_
   refine oc ?_
   refine S.off rfl (by decide) ?_
   refine oc ?_
   refine S.off rfl (by decide) ?_
   refine oc ?_
   refine S.off rfl (by decide) ?_
   refine oc ?_
   refine S.off rfl (by decide) ?_
   refine oc ?_
   refine S.off rfl (by decide) ?_
   refine oc ?_
   refine S.pick rfl rfl rfl rfl ?_
   obtain rfl := some_inj h
   refine oz ?_
   exact ⟨⟨rfl, trivial⟩, trivial⟩
  ·refine OpsR.setB (t := 7) rfl hc ?_
   refine oc ?_
   refine S.on rfl ?_
   refine S.faddrP rfl rfl ?_
   refine oc ?_
   refine S.on rfl ?_
   refine S.loadP rfl rfl rfl ?_
   obtain ⟨v1, h_v1, h⟩ := bnd_some h
   refine oc ?_
   refine S.on rfl ?_
   refine S.iaddrLM (c := c_u32) rfl rfl h_v1 (fun _ => rfl) ?_
   refine oc ?_
   refine S.on rfl ?_
   refine S.loadC rfl rfl ?_
   refine oc ?_
   refine S.on rfl ?_
   refine S.and rfl rfl rfl ?_
   refine oc ?_
   refine S.on rfl ?_
   refine S.eql rfl rfl rfl ?_
   refine oc ?_
   refine S.pick rfl rfl rfl rfl ?_
   obtain rfl := some_inj h
   refine oz ?_
   exact ⟨⟨rfl, trivial⟩, trivial⟩
 ·rintro st hI
  have hI : Is _ _ _ := hI
  revert hI
  refine fun hI => hI.elim ?_
  intro e H
  refine oc ?_
  refine S.move rfl ?_
  refine oz ?_
  refine Run.ret ?_
  obtain rfl := some_inj h
  exact FinS.fin (End.tmp rfl rfl rfl)

theorem r50 (a0 : T_nat_Nat) (r : Int) (h : nat_Nat_Limbs a0 = some r) : Fn Try.prog 50 [.agg (c_nat_Nat a0)] (.int .i64 r) := by
 unfold nat_Nat_Limbs at h
 refine Fn.ofS hm Try.func50 t50 (Nat.le_of_ble_eq_true rfl) ?_
 refine rs ?_
 refine ro ?_
 refine oc ?_
 refine S.box rfl rfl rfl rfl ?_
 refine oc ?_
 refine S.move rfl ?_
 refine oz ?_
 refine rs ?_
 refine ro ?_
 refine oc ?_
 refine S.faddrP rfl rfl ?_
 refine oc ?_
 refine S.loadP rfl rfl rfl ?_
 refine oc ?_
 refine S.lenLM rfl ?_
 refine oc ?_
 refine S.move rfl ?_
 refine oz ?_
 refine Run.ret ?_
 obtain rfl := some_inj h
 exact FinS.fin (End.tmp rfl rfl rfl)

theorem r81 (a0 : T_nat_Nat) (a1 : Int) (a2 : Int) (r : T_nat_Nat × Bool) (h : nat_Nat_Pow a0 a1 a2 = some r) : Fn Try.prog 81 [.agg (c_nat_Nat a0), .int .i64 a1, .int .i64 a2] (.tup [.agg (c_nat_Nat r.1), .bool r.2]) := by
 unfold nat_Nat_Pow at h
 refine Fn.ofS hm Try.func81 t81 (Nat.le_of_ble_eq_true rfl) ?_
 refine rs ?_
 refine ro ?_
 refine oc ?_
 refine S.box rfl rfl rfl rfl ?_
 refine oc ?_
 refine S.alloc rfl ?_
 refine oc ?_
 refine S.move rfl ?_
 refine oz ?_
 refine rs ?_
 refine ro ?_
 obtain ⟨v1, h_v1, h⟩ := bnd_some h
 refine oc ?_
 refine S.call (And.intro rfl rfl) (r33 1 _ h_v1) rfl ?_
 refine oc ?_
 refine S.alloc rfl ?_
 refine oc ?_
 refine S.storeP rfl rfl rfl rfl rfl rfl (Nat.le_of_ble_eq_true rfl) rfl ?_
 refine oz ?_
 refine rs ?_
 refine rs ?_
 refine ro ?_
 refine oc ?_
 refine S.move rfl ?_
 refine oc ?_
 refine S.leq rfl rfl rfl ?_
 refine oc ?_
 refine S.move rfl ?_
 obtain ⟨x3, hx, h⟩ := bnd_some h
 refine OpsR.splitAt 3 (J := fun st => ∃ g3 g6 g8 : Nat, Is [(1, .int .i64 a1), (2, .int .i64 a2), (3, .ptr 3 g3 0), (6, .ptr 6 g6 0), (8, .ptr 8 g8 0), (15, .bool x3)] [(3, g3, some (.box [.sl (List.map c_u32 a0)])), (6, g6, some (.box [.nil])), (8, g8, some (.box [.sl (List.map c_u32 v1)]))] st) ?_ ?_
 ·replace h := hx
  rcases ite_some h with ⟨hc, h⟩ | ⟨hc, h⟩
  ·refine OpsR.setB (t := 12) rfl hc ?_
   refine oc ?_
   refine S.off rfl (by decide) ?_
   refine oc ?_
   refine S.off rfl (by decide) ?_
   refine oc ?_
   refine S.pick rfl rfl rfl rfl ?_
   obtain rfl := some_inj h
   refine oz ?_
   exact ⟨_, _, _, ⟨rfl, rfl, rfl, rfl, rfl, rfl, trivial⟩, ⟨rfl, rfl, rfl, trivial⟩⟩
  ·refine OpsR.setB (t := 12) rfl hc ?_
   refine oc ?_
   refine S.on rfl ?_
   refine S.loadP rfl rfl rfl ?_
   obtain ⟨v2, h_v2, h⟩ := bnd_some h
   refine oc ?_
   refine S.on rfl ?_
   refine S.call (And.intro rfl rfl) (r80 a0 _ h_v2) rfl ?_
   refine oc ?_
   refine S.pick rfl rfl rfl rfl ?_
   obtain rfl := some_inj h
   refine oz ?_
   exact ⟨_, _, _, ⟨rfl, rfl, rfl, rfl, rfl, rfl, trivial⟩, ⟨rfl, rfl, rfl, trivial⟩⟩
 ·rintro st ⟨g3, g6, g8, hI⟩
  have hI : Is _ _ _ := hI
  revert hI
  refine fun hI => hI.elim ?_
  intro e H
  refine oz ?_
  rcases ite_some h with ⟨hc, h⟩ | ⟨hc, h⟩
  ·refine Run.setB (t := 15) rfl hc ?_
   refine Run.condT rfl ?_
   refine rs ?_
   refine ro ?_
   refine oc ?_
   refine S.loadP rfl rfl rfl ?_
   refine oc ?_
   refine S.storeP rfl rfl rfl rfl rfl rfl (Nat.le_of_ble_eq_true rfl) rfl ?_
   refine oc ?_
   refine S.move rfl ?_
   refine oz ?_
   refine Run.ret ?_
   obtain rfl := some_inj h
   exact FinS.fin (End.all (And.intro rfl rfl))
  ·refine Run.setB (t := 15) rfl hc ?_
   refine Run.condF rfl ?_
   refine Run.skip ?_
   refine rs ?_
   refine rs ?_
   refine ro ?_
   refine oc ?_
   refine S.loadP rfl rfl rfl ?_
   obtain ⟨v4, h_v4, h⟩ := bnd_some h
   refine oc ?_
   refine S.call (And.intro rfl rfl) (r53 a0 _ h_v4) rfl ?_
   refine oz ?_
   rcases ite_some h with ⟨hc, h⟩ | ⟨hc, h⟩
   ·refine Run.setB (t := 18) rfl hc ?_
    refine Run.condT rfl ?_
    refine rs ?_
    refine ro ?_
    refine oc ?_
    refine S.loadP rfl rfl rfl ?_
    refine oc ?_
    refine S.storeP rfl rfl rfl rfl rfl rfl (Nat.le_of_ble_eq_true rfl) rfl ?_
    refine oc ?_
    refine S.move rfl ?_
    refine oz ?_
    refine Run.ret ?_
    obtain rfl := some_inj h
    exact FinS.fin (End.all (And.intro rfl rfl))
   ·refine Run.setB (t := 18) rfl hc ?_
    refine Run.condF rfl ?_
    refine Run.skip ?_
    refine rs ?_
    refine rs ?_
    refine ro ?_
    refine oc ?_
    refine S.move rfl ?_
    refine oc ?_
    refine S.move rfl ?_
    refine oz ?_
    refine Run.block ?_
    obtain ⟨x8, hx, h⟩ := bnd_some h
    refine Run.iter (I := (fun (s : Int × List Int) (st : St) => ∃ g3 g6 g8 : Nat, Is [(2, .int .i64 a2), (3, .ptr 3 g3 0), (6, .ptr 6 g6 0), (8, .ptr 8 g8 0), (20, .int .i64 a1), (21, .int .i64 s.1)] [(3, g3, some (.box [.sl (List.map c_u32 a0)])), (6, g6, some (.box [.nil])), (8, g8, some (.box [.sl (List.map c_u32 s.2)]))] st)) (X := (XSum (XOne (.exit 0) (fun (x : List Int) (st : St) => ∃ g6 g8 : Nat, Is [(6, .ptr 6 g6 0), (8, .ptr 8 g8 0)] [(6, g6, some (.box [.nil])), (8, g8, some (.box [.sl (List.map c_u32 x)]))] st)) (XRet [.cell 6 (some 1), .tmp 7] (fun (x : T_nat_Nat × Bool) => .tup [.agg (c_nat_Nat x.1), .bool x.2])))) hx ?_ ?_ ?_
    ·exact ⟨_, _, _, ⟨rfl, rfl, rfl, rfl, rfl, rfl, trivial⟩, ⟨rfl, rfl, rfl, trivial⟩⟩
    ·rintro s5 st ⟨g3, g6, g8, hI⟩ o h
     have hI : Is _ _ _ := hI
     revert hI
     refine fun hI => hI.elim ?_
     intro e H
     refine rs ?_
     refine ro ?_
     refine oc ?_
     refine S.lss rfl rfl rfl ?_
     refine oz ?_
     refine rs ?_
     rcases ite_some h with ⟨hc, h⟩ | ⟨hc, h⟩
     ·refine Run.setB (t := 22) rfl hc ?_
      refine Run.condT rfl ?_
      refine Run.skip ?_
      refine rs ?_
      refine Run.block ?_
      refine rs ?_
      refine ro ?_
      refine oc ?_
      refine S.loadP rfl rfl rfl ?_
      refine oc ?_
      refine S.loadP rfl rfl rfl ?_
      obtain ⟨v6, h_v6, h⟩ := bnd_some h
      refine oc ?_
      refine S.call (And.intro rfl rfl) (r51 s5.2 a0 _ h_v6) rfl ?_
      refine oc ?_
      refine S.storeP rfl rfl rfl rfl rfl rfl (Nat.le_of_ble_eq_true rfl) rfl ?_
      refine oz ?_
      refine rs ?_
      refine ro ?_
      refine oc ?_
      refine S.loadP rfl rfl rfl ?_
      obtain ⟨v7, h_v7, h⟩ := bnd_some h
      refine oc ?_
      refine S.call (And.intro rfl rfl) (r50 v6 _ h_v7) rfl ?_
      refine oc ?_
      refine S.move rfl ?_
      refine oc ?_
      refine S.gtr rfl rfl rfl ?_
      refine oz ?_
      rcases ite_some h with ⟨hc, h⟩ | ⟨hc, h⟩
      ·refine Run.setB (t := 29) rfl hc ?_
       refine Run.condT rfl ?_
       refine rs ?_
       refine ro ?_
       refine oc ?_
       refine S.build (And.intro rfl rfl) rfl ?_
       refine oc ?_
       refine S.storeP rfl rfl rfl rfl rfl rfl (Nat.le_of_ble_eq_true rfl) rfl ?_
       refine oc ?_
       refine S.move rfl ?_
       refine oz ?_
       refine Run.cutJ (J := fun st => ∃ g6 : Nat, Is [(6, .ptr 6 g6 0), (7, .bool false)] [(6, g6, some (.box [.nil]))] st) ⟨_, ⟨rfl, rfl, trivial⟩, ⟨rfl, trivial⟩⟩ ?_
       rintro st ⟨g6, hI⟩
       have hI : Is _ _ _ := hI
       revert hI
       refine fun hI => hI.elim ?_
       intro e H
       refine Run.ret ?_
       obtain rfl := some_inj h
       exact LoopPost.out nofun (Leaf.done (XSum.r (XRet.mk (FinS.fin (End.all (And.intro rfl rfl))))))
      ·refine Run.setB (t := 29) rfl hc ?_
       refine Run.condF rfl ?_
       refine Run.skip ?_
       refine ro ?_
       refine oc ?_
       refine S.add rfl rfl rfl ?_
       refine oc ?_
       refine S.move rfl ?_
       refine oz ?_
       obtain rfl := some_inj h
       refine LoopPost.next ?_
       exact Leaf.done ⟨_, _, _, ⟨rfl, rfl, rfl, rfl, rfl, rfl, trivial⟩, ⟨rfl, rfl, rfl, trivial⟩⟩
     ·refine Run.setB (t := 22) rfl hc ?_
      refine Run.condF rfl ?_
      refine Run.exit ?_
      obtain rfl := some_inj h
      refine LoopPost.out nofun ?_
      exact Leaf.done (XSum.l (XOne.mk ⟨_, _, ⟨rfl, rfl, trivial⟩, ⟨rfl, rfl, trivial⟩⟩))
    ·intro e0 st0 hX
     revert h hX
     rcases x8 with x9 | x10
     ·intro h hX
      replace h := sm_l h
      replace hX := XSum.invl hX
      rcases hX with ⟨hX⟩
      obtain ⟨g6, g8, hI⟩ := hX
      revert hI
      refine fun hI => hI.elim ?_
      intro e H
      refine rs ?_
      refine ro ?_
      refine oc ?_
      refine S.loadP rfl rfl rfl ?_
      refine oc ?_
      refine S.storeP rfl rfl rfl rfl rfl rfl (Nat.le_of_ble_eq_true rfl) rfl ?_
      refine oc ?_
      refine S.move rfl ?_
      refine oz ?_
      refine Run.ret ?_
      obtain rfl := some_inj h
      exact FinS.fin (End.all (And.intro rfl rfl))
     ·intro h hX
      replace h := sm_r h
      replace hX := XSum.invr hX
      rcases hX with ⟨hf⟩
      obtain rfl := some_inj h
      exact hf

theorem r71 (a0 : T_ratio_Rat) (a1 : Int) (a2 : Int) (r : T_ratio_Rat × Bool) (h : ratio_Rat_Pow a0 a1 a2 = some r) : Fn Try.prog 71 [.agg (c_ratio_Rat a0), .int .i64 a1, .int .i64 a2] (.tup [.agg (c_ratio_Rat r.1), .bool r.2]) := by
 unfold ratio_Rat_Pow at h
 refine Fn.ofS hm Try.func71 t71 (Nat.le_of_ble_eq_true rfl) ?_
 refine rs ?_
 refine ro ?_
 refine oc ?_
 refine S.box rfl rfl rfl rfl ?_
 refine oc ?_
 refine S.alloc rfl ?_
 refine oc ?_
 refine S.move rfl ?_
 refine oz ?_
 refine rs ?_
 obtain ⟨x8, hx, h⟩ := bnd_some h
 refine Run.joinG (X := (XSum (XOne .normal (fun (x : Int × List Int × Bool × List Int) (st : St) => ∃ g3 g6 : Nat, Is [(1, .int .i64 x.1), (2, .int .i64 a2), (3, .ptr 3 g3 0), (6, .ptr 6 g6 0)] [(3, g3, some (.box [.sl (List.map c_u32 x.2.1), .bool x.2.2.1, .sl (List.map c_u32 x.2.2.2)])), (6, g6, some (.box [.nil, .bool false, .nil]))] st)) (XRet [.cell 6 (some 3), .tmp 7] (fun (x : T_ratio_Rat × Bool) => .tup [.agg (c_ratio_Rat x.1), .bool x.2])))) (x := x8) ?_ ?_
 ·replace h := hx
  refine Run.block ?_
  refine rs ?_
  refine ro ?_
  refine oc ?_
  refine S.move rfl ?_
  refine oc ?_
  refine S.eql rfl rfl rfl ?_
  refine oc ?_
  refine S.move rfl ?_
  refine oz ?_
  rcases ite_some h with ⟨hc, h⟩ | ⟨hc, h⟩
  ·refine Run.setB (t := 12) rfl hc ?_
   refine Run.condT rfl ?_
   refine rs ?_
   refine ro ?_
   obtain ⟨v1, h_v1, h⟩ := bnd_some h
   refine oc ?_
   refine S.call (And.intro rfl rfl) (r13 1 _ h_v1) rfl ?_
   refine oc ?_
   refine S.storeP rfl rfl rfl rfl rfl rfl (Nat.le_of_ble_eq_true rfl) rfl ?_
   refine oc ?_
   refine S.move rfl ?_
   refine oz ?_
   refine Run.ret ?_
   obtain rfl := some_inj h
   exact JP.mk (Leaf.done (XSum.r (XRet.mk (FinS.fin (End.all (And.intro rfl rfl))))))
  ·refine Run.setB (t := 12) rfl hc ?_
   refine Run.condF rfl ?_
   refine rs ?_
   refine ro ?_
   refine oc ?_
   refine S.loadP rfl rfl rfl ?_
   obtain ⟨v2, h_v2, h⟩ := bnd_some h
   refine oc ?_
   refine S.call (And.intro rfl rfl) (r68 a0 _ h_v2) rfl ?_
   refine oc ?_
   refine S.move rfl ?_
   refine oz ?_
   rcases ite_some h with ⟨hc, h⟩ | ⟨hc, h⟩
   ·refine Run.setB (t := 16) rfl hc ?_
    refine Run.condT rfl ?_
    refine rs ?_
    refine rs ?_
    refine ro ?_
    refine oc ?_
    refine S.loadP rfl rfl rfl ?_
    obtain ⟨v3, h_v3, h⟩ := bnd_some h
    refine oc ?_
    refine S.call (And.intro rfl rfl) (r15 a0 _ h_v3) rfl ?_
    refine oc ?_
    refine S.eql rfl rfl rfl ?_
    refine oc ?_
    refine S.move rfl ?_
    obtain ⟨x4, hx, h⟩ := lt_some h
    refine OpsR.splitAt 3 (J := fun st => ∃ g3 g6 : Nat, Is [(1, .int .i64 a1), (3, .ptr 3 g3 0), (6, .ptr 6 g6 0), (25, .bool x4)] [(3, g3, some (.box [.sl (List.map c_u32 a0.1.1), .bool a0.1.2, .sl (List.map c_u32 a0.2)])), (6, g6, some (.box [.nil, .bool false, .nil]))] st) ?_ ?_
    ·replace h := hx
     rcases itep h with ⟨hc, h⟩ | ⟨hc, h⟩
     ·refine OpsR.setB (t := 22) rfl hc ?_
      refine oc ?_
      refine S.on rfl ?_
      refine S.move rfl ?_
      refine oc ?_
      refine S.on rfl ?_
      refine S.lss rfl rfl rfl ?_
      refine oc ?_
      refine S.pick rfl rfl rfl rfl ?_
      obtain rfl := some_inj h
      refine oz ?_
      exact ⟨_, _, ⟨rfl, rfl, rfl, rfl, trivial⟩, ⟨rfl, rfl, trivial⟩⟩
     ·refine OpsR.setB (t := 22) rfl hc ?_
      refine oc ?_
      refine S.off rfl (by decide) ?_
      refine oc ?_
      refine S.off rfl (by decide) ?_
      refine oc ?_
      refine S.pick rfl rfl rfl rfl ?_
      obtain rfl := some_inj h
      refine oz ?_
      exact ⟨_, _, ⟨rfl, rfl, rfl, rfl, trivial⟩, ⟨rfl, rfl, trivial⟩⟩
    ·rintro st ⟨g3, g6, hI⟩
     have hI : Is _ _ _ := hI
     revert hI
     refine fun hI => hI.elim ?_
     intro e H
     refine oz ?_
     rcases ite_some h with ⟨hc, h⟩ | ⟨hc, h⟩
     ·refine Run.setB (t := 25) rfl hc ?_
      refine Run.condT rfl ?_
      refine rs ?_
      refine ro ?_
      refine oc ?_
      refine S.build (And.intro rfl rfl) rfl ?_
      refine oc ?_
      refine S.storeP rfl rfl rfl rfl rfl rfl (Nat.le_of_ble_eq_true rfl) rfl ?_
      refine oc ?_
      refine S.move rfl ?_
      refine oz ?_
      refine Run.ret ?_
      obtain rfl := some_inj h
      exact JP.mk (Leaf.done (XSum.r (XRet.mk (FinS.fin (End.all (And.intro rfl rfl))))))
     ·refine Run.setB (t := 25) rfl hc ?_
      refine Run.condF rfl ?_
      refine Run.skip ?_
      refine rs ?_
      refine rs ?_
      refine ro ?_
      refine oc ?_
      refine S.move rfl ?_
      refine oc ?_
      refine S.and rfl rfl rfl ?_
      refine oc ?_
      refine S.eql rfl rfl rfl ?_
      refine oz ?_
      rcases ite_some h with ⟨hc, h⟩ | ⟨hc, h⟩
      ·refine Run.setB (t := 29) rfl hc ?_
       refine Run.condT rfl ?_
       refine rs ?_
       refine ro ?_
       refine oc ?_
       refine S.loadP rfl rfl rfl ?_
       refine oc ?_
       refine S.loadP rfl rfl rfl ?_
       refine oc ?_
       refine S.buildSlM (c := c_ratio_Rat) (l := ([a0] : List T_ratio_Rat)) (And.intro rfl rfl) rfl rfl rfl ?_
       obtain ⟨v5, h_v5, h⟩ := bnd_some h
       refine oc ?_
       refine S.call (And.intro rfl (And.intro rfl (And.intro rfl (And.intro rfl rfl)))) (r14 a0 ([a0] : List T_ratio_Rat) _ h_v5) rfl ?_
       refine oc ?_
       refine S.storeP rfl rfl rfl rfl rfl rfl (Nat.le_of_ble_eq_true rfl) rfl ?_
       refine oc ?_
       refine S.move rfl ?_
       refine oz ?_
       refine Run.cutJ (J := fun st => ∃ g6 : Nat, Is [(6, .ptr 6 g6 0), (7, .bool true)] [(6, g6, some (.box [.sl (List.map c_u32 v5.1.1), .bool v5.1.2, .sl (List.map c_u32 v5.2)]))] st) ⟨_, ⟨rfl, rfl, trivial⟩, ⟨rfl, trivial⟩⟩ ?_
       rintro st ⟨g6, hI⟩
       have hI : Is _ _ _ := hI
       revert hI
       refine fun hI => hI.elim ?_
       intro e H
       refine Run.ret ?_
       obtain rfl := some_inj h
       exact JP.mk (Leaf.done (XSum.r (XRet.mk (FinS.fin (End.all (And.intro rfl rfl))))))
      ·refine Run.setB (t := 29) rfl hc ?_
       refine Run.condF rfl ?_
       refine Run.skip ?_
       refine rs ?_
       refine ro ?_
       refine oc ?_
       refine S.loadP rfl rfl rfl ?_
       refine oc ?_
       refine S.storeP rfl rfl rfl rfl rfl rfl (Nat.le_of_ble_eq_true rfl) rfl ?_
       refine oc ?_
       refine S.move rfl ?_
       refine oz ?_
       refine Run.ret ?_
       obtain rfl := some_inj h
       exact JP.mk (Leaf.done (XSum.r (XRet.mk (FinS.fin (End.all (And.intro rfl rfl))))))
   ·refine Run.setB (t := 16) rfl hc ?_
    refine Run.condF rfl ?_
    refine rs ?_
    refine ro ?_
    refine oc ?_
    refine S.move rfl ?_
    refine oc ?_
    refine S.lss rfl rfl rfl ?_
    refine oc ?_
    refine S.move rfl ?_
    refine oz ?_
    refine Run.cutJ (J := fun st => ∃ g3 g6 : Nat, Is [(1, .int .i64 a1), (2, .int .i64 a2), (3, .ptr 3 g3 0), (6, .ptr 6 g6 0), (35, .bool (decide (a1 < 0)))] [(3, g3, some (.box [.sl (List.map c_u32 a0.1.1), .bool a0.1.2, .sl (List.map c_u32 a0.2)])), (6, g6, some (.box [.nil, .bool false, .nil]))] st) ⟨_, _, ⟨rfl, rfl, rfl, rfl, rfl, trivial⟩, ⟨rfl, rfl, trivial⟩⟩ ?_
    rintro st ⟨g3, g6, hI⟩
    have hI : Is _ _ _ := hI
    revert hI
    refine fun hI => hI.elim ?_
    intro e H
    rcases ite_some h with ⟨hc, h⟩ | ⟨hc, h⟩
    ·refine Run.setB (t := 35) rfl hc ?_
     refine Run.condT rfl ?_
     refine rs ?_
     refine Run.drawn ?_
     obtain ⟨v6, h_v6, h⟩ := bnd_some h
     refine d1 (x := (_, _)) rfl rfl ?_
     refine S.call (And.intro rfl rfl) (r13 1 _ h_v6) rfl ?_
     refine d1 (x := (_, _)) rfl rfl ?_
     refine S.loadP rfl rfl rfl ?_
     obtain ⟨v7, h_v7, h⟩ := bnd_some h
     refine d1 (x := (_, _)) rfl rfl ?_
     refine S.call (And.intro rfl rfl) (r46 v6 a0 _ h_v7) rfl ?_
     refine d0 rfl ?_
     refine S.move rfl ?_
     refine d0 rfl ?_
     refine S.extract rfl rfl ?_
     refine d0 rfl ?_
     refine S.extract rfl rfl ?_
     refine d1 (x := (_, _)) rfl rfl ?_
     refine S.storeP rfl rfl rfl rfl rfl rfl (Nat.le_of_ble_eq_true rfl) rfl ?_
     refine DrawR.nil ?_
     refine ro ?_
     refine oc ?_
     refine S.move rfl ?_
     refine oc ?_
     refine S.max rfl rfl rfl ?_
     refine oc ?_
     refine S.neg rfl rfl ?_
     refine oc ?_
     refine S.move rfl ?_
     refine oz ?_
     obtain rfl := some_inj h
     refine JP.mk ?_
     exact Leaf.done (XSum.l (XOne.mk ⟨_, _, ⟨rfl, rfl, rfl, rfl, trivial⟩, ⟨rfl, rfl, trivial⟩⟩))
    ·refine Run.setB (t := 35) rfl hc ?_
     refine Run.condF rfl ?_
     refine Run.skip ?_
     obtain rfl := some_inj h
     refine JP.mk ?_
     exact Leaf.done (XSum.l (XOne.mk ⟨_, _, ⟨rfl, rfl, rfl, rfl, trivial⟩, ⟨rfl, rfl, trivial⟩⟩))
 ·intro e0 st0 hX
  revert h hX
  rcases x8 with x9 | x10
  ·intro h hX
   replace h := sm_l h
   replace hX := XSum.invl hX
   rcases hX with ⟨hX⟩
   obtain ⟨g3, g6, hI⟩ := hX
   revert hI
   refine fun hI => hI.elim ?_
   intro e H
   refine rs ?_
   refine ro ?_
   refine oc ?_
   refine S.faddrP rfl rfl ?_
   refine oc ?_
   refine S.faddrP rfl rfl ?_
   refine oc ?_
   refine S.loadP rfl rfl rfl ?_
   refine oc ?_
   refine S.move rfl ?_
   refine oc ?_
   refine S.move rfl ?_
   obtain ⟨v11, h_v11, h⟩ := bnd_some h
   refine oc ?_
   refine S.call (And.intro rfl rfl) (r81 x9.2.1 x9.1 a2 _ h_v11) rfl ?_
   refine oc ?_
   refine S.move rfl ?_
   refine oc ?_
   refine S.extract rfl rfl ?_
   refine oc ?_
   refine S.extract rfl rfl ?_
   refine oc ?_
   refine S.alloc rfl ?_
   refine oc ?_
   refine S.storeP rfl rfl rfl rfl rfl rfl (Nat.le_of_ble_eq_true rfl) rfl ?_
   refine oc ?_
   refine S.move rfl ?_
   refine oz ?_
   refine Run.cutJ (J := fun st => ∃ g3 g6 g8 : Nat, Is [(1, .int .i64 x9.1), (2, .int .i64 a2), (3, .ptr 3 g3 0), (6, .ptr 6 g6 0), (8, .ptr 8 g8 0), (9, .bool v11.2)] [(3, g3, some (.box [.sl (List.map c_u32 x9.2.1), .bool x9.2.2.1, .sl (List.map c_u32 x9.2.2.2)])), (6, g6, some (.box [.nil, .bool false, .nil])), (8, g8, some (.box [.sl (List.map c_u32 v11.1)]))] st) ⟨_, _, _, ⟨rfl, rfl, rfl, rfl, rfl, rfl, trivial⟩, ⟨rfl, rfl, rfl, trivial⟩⟩ ?_
   rintro st ⟨g3, g6, g8, hI⟩
   have hI : Is _ _ _ := hI
   revert hI
   refine fun hI => hI.elim ?_
   intro e H
   refine rs ?_
   refine ro ?_
   refine oc ?_
   refine S.loadP rfl rfl rfl ?_
   obtain ⟨v12, h_v12, h⟩ := bnd_some h
   refine oc ?_
   refine S.call (And.intro rfl rfl) (r37 ((x9.2.1, x9.2.2.1), x9.2.2.2) _ h_v12) rfl ?_
   refine oc ?_
   refine S.move rfl ?_
   refine oc ?_
   refine S.move rfl ?_
   obtain ⟨v13, h_v13, h⟩ := bnd_some h
   refine oc ?_
   refine S.call (And.intro rfl rfl) (r81 v12 x9.1 a2 _ h_v13) rfl ?_
   refine oc ?_
   refine S.move rfl ?_
   refine oc ?_
   refine S.extract rfl rfl ?_
   refine oc ?_
   refine S.extract rfl rfl ?_
   refine oc ?_
   refine S.alloc rfl ?_
   refine oc ?_
   refine S.storeP rfl rfl rfl rfl rfl rfl (Nat.le_of_ble_eq_true rfl) rfl ?_
   refine oc ?_
   refine S.move rfl ?_
   refine oz ?_
   refine rs ?_
   refine rs ?_
   refine ro ?_
   refine oc ?_
   refine S.move rfl ?_
   refine oc ?_
   refine S.not rfl rfl ?_
   refine oc ?_
   refine S.move rfl ?_
   obtain ⟨x14, hx, h⟩ := lt_some h
   refine OpsR.splitAt 3 (J := fun st => ∃ g3 g6 g8 g10 : Nat, Is [(1, .int .i64 x9.1), (3, .ptr 3 g3 0), (6, .ptr 6 g6 0), (8, .ptr 8 g8 0), (10, .ptr 10 g10 0), (69, .bool x14)] [(3, g3, some (.box [.sl (List.map c_u32 x9.2.1), .bool x9.2.2.1, .sl (List.map c_u32 x9.2.2.2)])), (6, g6, some (.box [.nil, .bool false, .nil])), (8, g8, some (.box [.sl (List.map c_u32 v11.1)])), (10, g10, some (.box [.sl (List.map c_u32 v13.1)]))] st) ?_ ?_
   ·replace h := hx
    rcases itep h with ⟨hc, h⟩ | ⟨hc, h⟩
    ·refine OpsR.setB (t := 66) rfl hc ?_
     refine oc ?_
     refine S.off rfl (by decide) ?_
     refine oc ?_
     refine S.off rfl (by decide) ?_
     refine oc ?_
     refine S.pick rfl rfl rfl rfl ?_
     obtain rfl := some_inj h
     refine oz ?_
     exact ⟨_, _, _, _, ⟨rfl, rfl, rfl, rfl, rfl, rfl, trivial⟩, ⟨rfl, rfl, rfl, rfl, trivial⟩⟩
    ·refine OpsR.setB (t := 66) rfl hc ?_
     refine oc ?_
     refine S.on rfl ?_
     refine S.move rfl ?_
     refine oc ?_
     refine S.on rfl ?_
     refine S.not rfl rfl ?_
     refine oc ?_
     refine S.pick rfl rfl rfl rfl ?_
     obtain rfl := some_inj h
     refine oz ?_
     exact ⟨_, _, _, _, ⟨rfl, rfl, rfl, rfl, rfl, rfl, trivial⟩, ⟨rfl, rfl, rfl, rfl, trivial⟩⟩
   ·rintro st ⟨g3, g6, g8, g10, hI⟩
    have hI : Is _ _ _ := hI
    revert hI
    refine fun hI => hI.elim ?_
    intro e H
    refine oz ?_
    rcases ite_some h with ⟨hc, h⟩ | ⟨hc, h⟩
    ·refine Run.setB (t := 69) rfl hc ?_
     refine Run.condT rfl ?_
     refine rs ?_
     refine ro ?_
     refine oc ?_
     refine S.build (And.intro rfl rfl) rfl ?_
     refine oc ?_
     refine S.storeP rfl rfl rfl rfl rfl rfl (Nat.le_of_ble_eq_true rfl) rfl ?_
     refine oc ?_
     refine S.move rfl ?_
     refine oz ?_
     refine Run.ret ?_
     obtain rfl := some_inj h
     exact FinS.fin (End.all (And.intro rfl rfl))
    ·refine Run.setB (t := 69) rfl hc ?_
     refine Run.condF rfl ?_
     refine Run.skip ?_
     refine rs ?_
     obtain ⟨x18, hx, h⟩ := bnd_some h
     refine Run.joinG (X := (XOne .normal (fun (x : List Int × Bool) (st : St) => ∃ g6 : Nat, Is [(6, .ptr 6 g6 0), (7, .bool true)] [(6, g6, some (.box [.sl (List.map c_u32 x.1), .bool x.2, .sl (List.map c_u32 v13.1)]))] st))) (x := x18) ?_ ?_
     ·replace h := hx
      refine Run.drawn ?_
      refine d0 rfl ?_
      refine S.faddrP rfl rfl ?_
      refine d1 (x := (_, _)) rfl rfl ?_
      refine S.loadP rfl rfl rfl ?_
      obtain ⟨v15, h_v15, h⟩ := bnd_some h
      refine d1 (x := (_, _)) rfl rfl ?_
      refine S.call (And.intro rfl rfl) (r35 (x9.2.1, x9.2.2.1) _ h_v15) rfl ?_
      refine d0 rfl ?_
      refine S.move rfl ?_
      rcases ite_some h with ⟨hc, h⟩ | ⟨hc, h⟩
      ·refine DrawR.setB (t := 74) rfl hc ?_
       refine d0 rfl ?_
       refine S.on rfl ?_
       refine S.move rfl ?_
       refine d0 rfl ?_
       refine S.on rfl ?_
       refine S.and rfl rfl rfl ?_
       refine d0 rfl ?_
       refine S.on rfl ?_
       refine S.eql rfl rfl rfl ?_
       refine d0 rfl ?_
       refine S.pick rfl rfl rfl rfl ?_
       refine d1 (x := (_, _)) rfl rfl ?_
       refine S.loadP rfl rfl rfl ?_
       obtain ⟨v16, h_v16, h⟩ := bnd_some h
       refine d1 (x := (_, _)) rfl rfl ?_
       refine S.call (And.intro rfl rfl) (r43 (decide ((band .i64 x9.1 1) = 1)) v11.1 _ h_v16) rfl ?_
       refine d1 (x := (_, _)) rfl rfl ?_
       refine S.loadP rfl rfl rfl ?_
       refine d0 rfl ?_
       refine S.build (And.intro rfl rfl) (And.intro rfl (And.intro rfl (And.intro (Nat.le_of_ble_eq_true rfl) (And.intro rfl (And.intro rfl (And.intro (Nat.le_of_ble_eq_true rfl) rfl)))))) ?_
       refine d1 (x := (_, _)) rfl rfl ?_
       refine S.storeP rfl rfl rfl rfl rfl rfl (Nat.le_of_ble_eq_true rfl) rfl ?_
       refine d0 rfl ?_
       refine S.move rfl ?_
       refine DrawR.nil ?_
       obtain rfl := some_inj h
       refine JP.mk ?_
       exact Leaf.done (XOne.mk ⟨_, ⟨rfl, rfl, trivial⟩, ⟨rfl, trivial⟩⟩)
      ·refine DrawR.setB (t := 74) rfl hc ?_
       refine d0 rfl ?_
       refine S.off rfl (by decide) ?_
       refine d0 rfl ?_
       refine S.off rfl (by decide) ?_
       refine d0 rfl ?_
       refine S.off rfl (by decide) ?_
       refine d0 rfl ?_
       refine S.pick rfl rfl rfl rfl ?_
       refine d1 (x := (_, _)) rfl rfl ?_
       refine S.loadP rfl rfl rfl ?_
       obtain ⟨v17, h_v17, h⟩ := bnd_some h
       refine d1 (x := (_, _)) rfl rfl ?_
       refine S.call (And.intro rfl rfl) (r43 false v11.1 _ h_v17) rfl ?_
       refine d1 (x := (_, _)) rfl rfl ?_
       refine S.loadP rfl rfl rfl ?_
       refine d0 rfl ?_
       refine S.build (And.intro rfl rfl) (And.intro rfl (And.intro rfl (And.intro (Nat.le_of_ble_eq_true rfl) (And.intro rfl (And.intro rfl (And.intro (Nat.le_of_ble_eq_true rfl) rfl)))))) ?_
       refine d1 (x := (_, _)) rfl rfl ?_
       refine S.storeP rfl rfl rfl rfl rfl rfl (Nat.le_of_ble_eq_true rfl) rfl ?_
       refine d0 rfl ?_
       refine S.move rfl ?_
       refine DrawR.nil ?_
       obtain rfl := some_inj h
       refine JP.mk ?_
       exact Leaf.done (XOne.mk ⟨_, ⟨rfl, rfl, trivial⟩, ⟨rfl, trivial⟩⟩)
     ·intro e0 st0 hX
      rcases hX with ⟨hX⟩
      obtain ⟨g6, hI⟩ := hX
      revert hI
      refine fun hI => hI.elim ?_
      intro e H
      refine Run.ret ?_
      obtain rfl := some_inj h
      exact FinS.fin (End.all (And.intro rfl rfl))
  ·intro h hX
   replace h := sm_r h
   replace hX := XSum.invr hX
   rcases hX with ⟨hf⟩
   obtain rfl := some_inj h
   exact hf

theorem r48 (a0 : T_ratio_Rat) (a1 : T_ratio_Rat) (a2 : Int) (r : T_ratio_Rat × Int) (h : dyad_power a0 a1 a2 = some r) : Fn Try.prog 48 [.agg (c_ratio_Rat a0), .agg (c_ratio_Rat a1), .int .i64 a2] (.tup [.agg (c_ratio_Rat r.1), .int .i64 r.2]) := by
 unfold dyad_power at h
 refine Fn.ofS hm Try.func48 t48 (Nat.le_of_ble_eq_true rfl) ?_
 refine rs ?_
 refine ro ?_
 refine oc ?_
 refine S.box rfl rfl rfl rfl ?_
 refine oc ?_
 refine S.box rfl rfl rfl rfl ?_
 refine oc ?_
 refine S.alloc rfl ?_
 refine oc ?_
 refine S.move rfl ?_
 refine oz ?_
 refine rs ?_
 refine Run.block ?_
 refine rs ?_
 refine ro ?_
 refine oc ?_
 refine S.loadP rfl rfl rfl ?_
 obtain ⟨v1, h_v1, h⟩ := bnd_some h
 refine oc ?_
 refine S.call (And.intro rfl rfl) (r63 a1 _ h_v1) rfl ?_
 refine oc ?_
 refine S.not rfl rfl ?_
 refine oc ?_
 refine S.move rfl ?_
 obtain ⟨x5, hx, h⟩ := bnd_some h
 refine OpsR.splitAt 9 (J := fun st => ∃ g3 g4 g6 : Nat, Is [(2, .int .i64 a2), (3, .ptr 3 g3 0), (4, .ptr 4 g4 0), (6, .ptr 6 g6 0), (24, .bool x5)] [(3, g3, some (.box [.sl (List.map c_u32 a0.1.1), .bool a0.1.2, .sl (List.map c_u32 a0.2)])), (4, g4, some (.box [.sl (List.map c_u32 a1.1.1), .bool a1.1.2, .sl (List.map c_u32 a1.2)])), (6, g6, some (.box [.nil, .bool false, .nil]))] st) ?_ ?_
 ·replace h := hx
  rcases ite_some h with ⟨hc, h⟩ | ⟨hc, h⟩
  ·refine OpsR.setB (t := 15) rfl hc ?_
   refine oc ?_
   refine S.off rfl (by decide) ?_
   refine oc ?_
   refine S.off rfl (by decide) ?_
   refine oc ?_
   refine S.off rfl (by decide) ?_
   refine oc ?_
   refine S.off rfl (by decide) ?_
   refine oc ?_
   refine S.offN rfl ?_
   refine oc ?_
   refine S.offN rfl ?_
   refine oc ?_
   refine S.offN rfl ?_
   refine oc ?_
   refine S.off rfl (by decide) ?_
   refine oc ?_
   refine S.pick rfl rfl rfl rfl ?_
   obtain rfl := some_inj h
   refine oz ?_
   exact ⟨_, _, _, ⟨rfl, rfl, rfl, rfl, rfl, trivial⟩, ⟨rfl, rfl, rfl, trivial⟩⟩
  ·refine OpsR.setB (t := 15) rfl hc ?_
   refine oc ?_
   refine S.on rfl ?_
   refine S.loadP rfl rfl rfl ?_
   obtain ⟨v2, h_v2, h⟩ := bnd_some h
   refine oc ?_
   refine S.on rfl ?_
   refine S.call (And.intro rfl rfl) (r15 a0 _ h_v2) rfl ?_
   refine oc ?_
   refine S.on rfl ?_
   refine S.eql rfl rfl rfl ?_
   refine oc ?_
   refine S.on rfl ?_
   refine S.move rfl ?_
   obtain ⟨x4, hx, h⟩ := bnd_some h
   refine OpsR.splitAt 4 (J := fun st => ∃ g3 g4 g6 : Nat, Is [(2, .int .i64 a2), (3, .ptr 3 g3 0), (4, .ptr 4 g4 0), (6, .ptr 6 g6 0), (15, .bool false), (23, .bool x4)] [(3, g3, some (.box [.sl (List.map c_u32 a0.1.1), .bool a0.1.2, .sl (List.map c_u32 a0.2)])), (4, g4, some (.box [.sl (List.map c_u32 a1.1.1), .bool a1.1.2, .sl (List.map c_u32 a1.2)])), (6, g6, some (.box [.nil, .bool false, .nil]))] st) ?_ ?_
   ·replace h := hx
    rcases ite_some h with ⟨hc, h⟩ | ⟨hc, h⟩
    ·refine OpsR.setB (t := 19) rfl hc ?_
     refine oc ?_
     refine S.on rfl ?_
     refine S.loadP rfl rfl rfl ?_
     obtain ⟨v3, h_v3, h⟩ := bnd_some h
     refine oc ?_
     refine S.on rfl ?_
     refine S.call (And.intro rfl rfl) (r15 a1 _ h_v3) rfl ?_
     refine oc ?_
     refine S.on rfl ?_
     refine S.lss rfl rfl rfl ?_
     refine oc ?_
     refine S.on rfl ?_
     refine S.pick rfl rfl rfl rfl ?_
     obtain rfl := some_inj h
     refine oz ?_
     exact ⟨_, _, _, ⟨rfl, rfl, rfl, rfl, rfl, rfl, trivial⟩, ⟨rfl, rfl, rfl, trivial⟩⟩
    ·refine OpsR.setB (t := 19) rfl hc ?_
     refine oc ?_
     refine S.off rfl (by decide) ?_
     refine oc ?_
     refine S.off rfl (by decide) ?_
     refine oc ?_
     refine S.off rfl (by decide) ?_
     refine oc ?_
     refine S.on rfl ?_
     refine S.pick rfl rfl rfl rfl ?_
     obtain rfl := some_inj h
     refine oz ?_
     exact ⟨_, _, _, ⟨rfl, rfl, rfl, rfl, rfl, rfl, trivial⟩, ⟨rfl, rfl, rfl, trivial⟩⟩
   ·rintro st ⟨g3, g4, g6, hI⟩
    have hI : Is _ _ _ := hI
    revert hI
    refine fun hI => hI.elim ?_
    intro e H
    refine oc ?_
    refine S.pick rfl rfl rfl rfl ?_
    obtain rfl := some_inj h
    refine oz ?_
    exact ⟨_, _, _, ⟨rfl, rfl, rfl, rfl, rfl, trivial⟩, ⟨rfl, rfl, rfl, trivial⟩⟩
 ·rintro st ⟨g3, g4, g6, hI⟩
  have hI : Is _ _ _ := hI
  revert hI
  refine fun hI => hI.elim ?_
  intro e H
  refine oc ?_
  refine S.move rfl ?_
  refine oz ?_
  rcases ite_some h with ⟨hc, h⟩ | ⟨hc, h⟩
  ·refine Run.setB (t := 11) rfl hc ?_
   refine Run.condT rfl ?_
   refine rs ?_
   refine ro ?_
   refine oc ?_
   refine S.build (And.intro rfl rfl) rfl ?_
   refine oc ?_
   refine S.storeP rfl rfl rfl rfl rfl rfl (Nat.le_of_ble_eq_true rfl) rfl ?_
   refine oc ?_
   refine S.move rfl ?_
   refine oz ?_
   refine Run.ret ?_
   obtain rfl := some_inj h
   exact FinS.fin (End.all (And.intro rfl rfl))
  ·refine Run.setB (t := 11) rfl hc ?_
   refine Run.condF rfl ?_
   refine rs ?_
   refine ro ?_
   refine oc ?_
   refine S.loadP rfl rfl rfl ?_
   obtain ⟨v6, h_v6, h⟩ := bnd_some h
   refine oc ?_
   refine S.call (And.intro rfl rfl) (r68 a0 _ h_v6) rfl ?_
   refine oc ?_
   refine S.move rfl ?_
   obtain ⟨x8, hx, h⟩ := bnd_some h
   refine OpsR.splitAt 4 (J := fun st => ∃ g3 g4 g6 : Nat, Is [(2, .int .i64 a2), (3, .ptr 3 g3 0), (4, .ptr 4 g4 0), (6, .ptr 6 g6 0), (33, .bool x8)] [(3, g3, some (.box [.sl (List.map c_u32 a0.1.1), .bool a0.1.2, .sl (List.map c_u32 a0.2)])), (4, g4, some (.box [.sl (List.map c_u32 a1.1.1), .bool a1.1.2, .sl (List.map c_u32 a1.2)])), (6, g6, some (.box [.nil, .bool false, .nil]))] st) ?_ ?_
   ·replace h := hx
    rcases ite_some h with ⟨hc, h⟩ | ⟨hc, h⟩
    ·refine OpsR.setB (t := 29) rfl hc ?_
     refine oc ?_
     refine S.on rfl ?_
     refine S.loadP rfl rfl rfl ?_
     obtain ⟨v7, h_v7, h⟩ := bnd_some h
     refine oc ?_
     refine S.on rfl ?_
     refine S.call (And.intro rfl rfl) (r15 a1 _ h_v7) rfl ?_
     refine oc ?_
     refine S.on rfl ?_
     refine S.neq rfl rfl rfl ?_
     refine oc ?_
     refine S.pick rfl rfl rfl rfl ?_
     obtain rfl := some_inj h
     refine oz ?_
     exact ⟨_, _, _, ⟨rfl, rfl, rfl, rfl, rfl, trivial⟩, ⟨rfl, rfl, rfl, trivial⟩⟩
    ·refine OpsR.setB (t := 29) rfl hc ?_
     refine oc ?_
     refine S.off rfl (by decide) ?_
     refine oc ?_
     refine S.off rfl (by decide) ?_
     refine oc ?_
     refine S.off rfl (by decide) ?_
     refine oc ?_
     refine S.pick rfl rfl rfl rfl ?_
     obtain rfl := some_inj h
     refine oz ?_
     exact ⟨_, _, _, ⟨rfl, rfl, rfl, rfl, rfl, trivial⟩, ⟨rfl, rfl, rfl, trivial⟩⟩
   ·rintro st ⟨g3, g4, g6, hI⟩
    have hI : Is _ _ _ := hI
    revert hI
    refine fun hI => hI.elim ?_
    intro e H
    refine oc ?_
    refine S.move rfl ?_
    refine oz ?_
    rcases ite_some h with ⟨hc, h⟩ | ⟨hc, h⟩
    ·refine Run.setB (t := 26) rfl hc ?_
     refine Run.condT rfl ?_
     refine rs ?_
     refine rs ?_
     refine ro ?_
     refine oc ?_
     refine S.loadP rfl rfl rfl ?_
     obtain ⟨v9, h_v9, h⟩ := bnd_some h
     refine oc ?_
     refine S.call (And.intro rfl rfl) (r15 a0 _ h_v9) rfl ?_
     refine oc ?_
     refine S.lss rfl rfl rfl ?_
     refine oc ?_
     refine S.move rfl ?_
     obtain ⟨x12, hx, h⟩ := bnd_some h
     refine OpsR.splitAt 5 (J := fun st => ∃ g3 g6 : Nat, Is [(3, .ptr 3 g3 0), (6, .ptr 6 g6 0), (42, .bool x12)] [(3, g3, some (.box [.sl (List.map c_u32 a0.1.1), .bool a0.1.2, .sl (List.map c_u32 a0.2)])), (6, g6, some (.box [.nil, .bool false, .nil]))] st) ?_ ?_
     ·replace h := hx
      rcases ite_some h with ⟨hc, h⟩ | ⟨hc, h⟩
      ·refine OpsR.setB (t := 37) rfl hc ?_
       refine oc ?_
       refine S.on rfl ?_
       refine S.loadP rfl rfl rfl ?_
       obtain ⟨v10, h_v10, h⟩ := bnd_some h
       refine oc ?_
       refine S.on rfl ?_
       refine S.call (And.intro rfl rfl) (r69 a1 _ h_v10) rfl ?_
       refine oc ?_
       refine S.on rfl ?_
       refine S.field rfl rfl ?_
       obtain ⟨v11, h_v11, h⟩ := bnd_some h
       refine oc ?_
       refine S.on rfl ?_
       refine S.call (And.intro rfl rfl) (r70 v10.1 _ h_v11) rfl ?_
       refine oc ?_
       refine S.pick rfl rfl rfl rfl ?_
       obtain rfl := some_inj h
       refine oz ?_
       exact ⟨_, _, ⟨rfl, rfl, rfl, trivial⟩, ⟨rfl, rfl, trivial⟩⟩
      ·refine OpsR.setB (t := 37) rfl hc ?_
       refine oc ?_
       refine S.off rfl (by decide) ?_
       refine oc ?_
       refine S.off rfl (by decide) ?_
       refine oc ?_
       refine S.off rfl (by decide) ?_
       refine oc ?_
       refine S.off rfl (by decide) ?_
       refine oc ?_
       refine S.pick rfl rfl rfl rfl ?_
       obtain rfl := some_inj h
       refine oz ?_
       exact ⟨_, _, ⟨rfl, rfl, rfl, trivial⟩, ⟨rfl, rfl, trivial⟩⟩
     ·rintro st ⟨g3, g6, hI⟩
      have hI : Is _ _ _ := hI
      revert hI
      refine fun hI => hI.elim ?_
      intro e H
      refine oz ?_
      rcases ite_some h with ⟨hc, h⟩ | ⟨hc, h⟩
      ·refine Run.setB (t := 42) rfl hc ?_
       refine Run.condT rfl ?_
       refine rs ?_
       refine ro ?_
       refine oc ?_
       refine S.loadP rfl rfl rfl ?_
       obtain ⟨v13, h_v13, h⟩ := bnd_some h
       refine oc ?_
       refine S.call (And.intro rfl rfl) (r45 a0 _ h_v13) rfl ?_
       refine oc ?_
       refine S.storeP rfl rfl rfl rfl rfl rfl (Nat.le_of_ble_eq_true rfl) rfl ?_
       refine oc ?_
       refine S.move rfl ?_
       refine oz ?_
       refine Run.ret ?_
       obtain rfl := some_inj h
       exact FinS.fin (End.all (And.intro rfl rfl))
      ·refine Run.setB (t := 42) rfl hc ?_
       refine Run.condF rfl ?_
       refine Run.skip ?_
       refine rs ?_
       refine ro ?_
       refine oc ?_
       refine S.loadP rfl rfl rfl ?_
       refine oc ?_
       refine S.storeP rfl rfl rfl rfl rfl rfl (Nat.le_of_ble_eq_true rfl) rfl ?_
       refine oc ?_
       refine S.move rfl ?_
       refine oz ?_
       refine Run.ret ?_
       obtain rfl := some_inj h
       exact FinS.fin (End.all (And.intro rfl rfl))
    ·refine Run.setB (t := 26) rfl hc ?_
     refine Run.condF rfl ?_
     refine Run.skip ?_
     refine rs ?_
     refine ro ?_
     refine oc ?_
     refine S.loadP rfl rfl rfl ?_
     obtain ⟨v14, h_v14, h⟩ := bnd_some h
     refine oc ?_
     refine S.call (And.intro rfl rfl) (r44 a1 _ h_v14) rfl ?_
     refine oc ?_
     refine S.move rfl ?_
     refine oc ?_
     refine S.extract rfl rfl ?_
     refine oc ?_
     refine S.extract rfl rfl ?_
     refine oc ?_
     refine S.move rfl ?_
     refine oc ?_
     refine S.move rfl ?_
     refine oz ?_
     refine rs ?_
     refine rs ?_
     refine ro ?_
     refine oc ?_
     refine S.move rfl ?_
     refine oc ?_
     refine S.not rfl rfl ?_
     refine oz ?_
     rcases ite_some h with ⟨hc, h⟩ | ⟨hc, h⟩
     ·refine Run.setB (t := 52) rfl hc ?_
      refine Run.condT rfl ?_
      refine rs ?_
      refine ro ?_
      refine oc ?_
      refine S.build (And.intro rfl rfl) rfl ?_
      refine oc ?_
      refine S.storeP rfl rfl rfl rfl rfl rfl (Nat.le_of_ble_eq_true rfl) rfl ?_
      refine oc ?_
      refine S.move rfl ?_
      refine oz ?_
      refine Run.cutJ (J := fun st => ∃ g6 : Nat, Is [(6, .ptr 6 g6 0), (7, .int .i64 26)] [(6, g6, some (.box [.nil, .bool false, .nil]))] st) ⟨_, ⟨rfl, rfl, trivial⟩, ⟨rfl, trivial⟩⟩ ?_
      rintro st ⟨g6, hI⟩
      have hI : Is _ _ _ := hI
      revert hI
      refine fun hI => hI.elim ?_
      intro e H
      refine Run.ret ?_
      obtain rfl := some_inj h
      exact FinS.fin (End.all (And.intro rfl rfl))
     ·refine Run.setB (t := 52) rfl hc ?_
      refine Run.condF rfl ?_
      refine Run.skip ?_
      refine rs ?_
      refine ro ?_
      refine oc ?_
      refine S.loadP rfl rfl rfl ?_
      refine oc ?_
      refine S.move rfl ?_
      refine oc ?_
      refine S.move rfl ?_
      obtain ⟨v15, h_v15, h⟩ := bnd_some h
      refine oc ?_
      refine S.call (And.intro rfl rfl) (r71 a0 v14.1 a2 _ h_v15) rfl ?_
      refine oc ?_
      refine S.move rfl ?_
      refine oc ?_
      refine S.extract rfl rfl ?_
      refine oc ?_
      refine S.extract rfl rfl ?_
      refine oc ?_
      refine S.alloc rfl ?_
      refine oc ?_
      refine S.storeP rfl rfl rfl rfl rfl rfl (Nat.le_of_ble_eq_true rfl) rfl ?_
      refine oc ?_
      refine S.move rfl ?_
      refine oz ?_
      refine Run.cutJ (J := fun st => ∃ g6 g10 : Nat, Is [(6, .ptr 6 g6 0), (9, .bool v15.2), (10, .ptr 10 g10 0)] [(6, g6, some (.box [.nil, .bool false, .nil])), (10, g10, some (.box [.sl (List.map c_u32 v15.1.1.1), .bool v15.1.1.2, .sl (List.map c_u32 v15.1.2)]))] st) ⟨_, _, ⟨rfl, rfl, rfl, trivial⟩, ⟨rfl, rfl, trivial⟩⟩ ?_
      rintro st ⟨g6, g10, hI⟩
      have hI : Is _ _ _ := hI
      revert hI
      refine fun hI => hI.elim ?_
      intro e H
      refine rs ?_
      refine rs ?_
      refine ro ?_
      refine oc ?_
      refine S.move rfl ?_
      refine oc ?_
      refine S.not rfl rfl ?_
      refine oz ?_
      rcases ite_some h with ⟨hc, h⟩ | ⟨hc, h⟩
      ·refine Run.setB (t := 62) rfl hc ?_
       refine Run.condT rfl ?_
       refine rs ?_
       refine ro ?_
       refine oc ?_
       refine S.loadP rfl rfl rfl ?_
       refine oc ?_
       refine S.storeP rfl rfl rfl rfl rfl rfl (Nat.le_of_ble_eq_true rfl) rfl ?_
       refine oc ?_
       refine S.move rfl ?_
       refine oz ?_
       refine Run.ret ?_
       obtain rfl := some_inj h
       exact FinS.fin (End.all (And.intro rfl rfl))
      ·refine Run.setB (t := 62) rfl hc ?_
       refine Run.condF rfl ?_
       refine Run.skip ?_
       refine rs ?_
       refine ro ?_
       refine oc ?_
       refine S.loadP rfl rfl rfl ?_
       refine oc ?_
       refine S.storeP rfl rfl rfl rfl rfl rfl (Nat.le_of_ble_eq_true rfl) rfl ?_
       refine oc ?_
       refine S.move rfl ?_
       refine oz ?_
       refine Run.ret ?_
       obtain rfl := some_inj h
       exact FinS.fin (End.all (And.intro rfl rfl))

theorem r49 (a0 : T_ratio_Rat) (a1 : T_ratio_Rat) (a2 : Int) (r : T_ratio_Rat × Int) (h : dyad_choose a0 a1 a2 = some r) : Fn Try.prog 49 [.agg (c_ratio_Rat a0), .agg (c_ratio_Rat a1), .int .i64 a2] (.tup [.agg (c_ratio_Rat r.1), .int .i64 r.2]) := by
 unfold dyad_choose at h
 refine Fn.ofS hm Try.func49 t49 (Nat.le_of_ble_eq_true rfl) ?_
 refine rs ?_
 refine ro ?_
 refine oc ?_
 refine S.box rfl rfl rfl rfl ?_
 refine oc ?_
 refine S.box rfl rfl rfl rfl ?_
 refine oc ?_
 refine S.alloc rfl ?_
 refine oc ?_
 refine S.move rfl ?_
 refine oz ?_
 refine rs ?_
 refine rs ?_
 refine ro ?_
 refine oc ?_
 refine S.loadP rfl rfl rfl ?_
 obtain ⟨v1, h_v1, h⟩ := bnd_some h
 refine oc ?_
 refine S.call (And.intro rfl rfl) (r63 a0 _ h_v1) rfl ?_
 refine oc ?_
 refine S.not rfl rfl ?_
 refine oc ?_
 refine S.move rfl ?_
 obtain ⟨x3, hx, h⟩ := bnd_some h
 refine OpsR.splitAt 4 (J := fun st => ∃ g3 g4 g6 : Nat, Is [(2, .int .i64 a2), (3, .ptr 3 g3 0), (4, .ptr 4 g4 0), (6, .ptr 6 g6 0), (20, .bool x3)] [(3, g3, some (.box [.sl (List.map c_u32 a0.1.1), .bool a0.1.2, .sl (List.map c_u32 a0.2)])), (4, g4, some (.box [.sl (List.map c_u32 a1.1.1), .bool a1.1.2, .sl (List.map c_u32 a1.2)])), (6, g6, some (.box [.nil, .bool false, .nil]))] st) ?_ ?_
 ·replace h := hx
  rcases ite_some h with ⟨hc, h⟩ | ⟨hc, h⟩
  ·refine OpsR.setB (t := 16) rfl hc ?_
   refine oc ?_
   refine S.off rfl (by decide) ?_
   refine oc ?_
   refine S.off rfl (by decide) ?_
   refine oc ?_
   refine S.off rfl (by decide) ?_
   refine oc ?_
   refine S.pick rfl rfl rfl rfl ?_
   obtain rfl := some_inj h
   refine oz ?_
   exact ⟨_, _, _, ⟨rfl, rfl, rfl, rfl, rfl, trivial⟩, ⟨rfl, rfl, rfl, trivial⟩⟩
  ·refine OpsR.setB (t := 16) rfl hc ?_
   refine oc ?_
   refine S.on rfl ?_
   refine S.loadP rfl rfl rfl ?_
   obtain ⟨v2, h_v2, h⟩ := bnd_some h
   refine oc ?_
   refine S.on rfl ?_
   refine S.call (And.intro rfl rfl) (r63 a1 _ h_v2) rfl ?_
   refine oc ?_
   refine S.on rfl ?_
   refine S.not rfl rfl ?_
   refine oc ?_
   refine S.pick rfl rfl rfl rfl ?_
   obtain rfl := some_inj h
   refine oz ?_
   exact ⟨_, _, _, ⟨rfl, rfl, rfl, rfl, rfl, trivial⟩, ⟨rfl, rfl, rfl, trivial⟩⟩
 ·rintro st ⟨g3, g4, g6, hI⟩
  have hI : Is _ _ _ := hI
  revert hI
  refine fun hI => hI.elim ?_
  intro e H
  refine oc ?_
  refine S.move rfl ?_
  obtain ⟨x5, hx, h⟩ := bnd_some h
  refine OpsR.splitAt 4 (J := fun st => ∃ g3 g4 g6 : Nat, Is [(2, .int .i64 a2), (3, .ptr 3 g3 0), (4, .ptr 4 g4 0), (6, .ptr 6 g6 0), (25, .bool x5)] [(3, g3, some (.box [.sl (List.map c_u32 a0.1.1), .bool a0.1.2, .sl (List.map c_u32 a0.2)])), (4, g4, some (.box [.sl (List.map c_u32 a1.1.1), .bool a1.1.2, .sl (List.map c_u32 a1.2)])), (6, g6, some (.box [.nil, .bool false, .nil]))] st) ?_ ?_
  ·replace h := hx
   rcases ite_some h with ⟨hc, h⟩ | ⟨hc, h⟩
   ·refine OpsR.setB (t := 21) rfl hc ?_
    refine oc ?_
    refine S.off rfl (by decide) ?_
    refine oc ?_
    refine S.off rfl (by decide) ?_
    refine oc ?_
    refine S.off rfl (by decide) ?_
    refine oc ?_
    refine S.pick rfl rfl rfl rfl ?_
    obtain rfl := some_inj h
    refine oz ?_
    exact ⟨_, _, _, ⟨rfl, rfl, rfl, rfl, rfl, trivial⟩, ⟨rfl, rfl, rfl, trivial⟩⟩
   ·refine OpsR.setB (t := 21) rfl hc ?_
    refine oc ?_
    refine S.on rfl ?_
    refine S.loadP rfl rfl rfl ?_
    obtain ⟨v4, h_v4, h⟩ := bnd_some h
    refine oc ?_
    refine S.on rfl ?_
    refine S.call (And.intro rfl rfl) (r15 a0 _ h_v4) rfl ?_
    refine oc ?_
    refine S.on rfl ?_
    refine S.lss rfl rfl rfl ?_
    refine oc ?_
    refine S.pick rfl rfl rfl rfl ?_
    obtain rfl := some_inj h
    refine oz ?_
    exact ⟨_, _, _, ⟨rfl, rfl, rfl, rfl, rfl, trivial⟩, ⟨rfl, rfl, rfl, trivial⟩⟩
  ·rintro st ⟨g3, g4, g6, hI⟩
   have hI : Is _ _ _ := hI
   revert hI
   refine fun hI => hI.elim ?_
   intro e H
   refine oc ?_
   refine S.move rfl ?_
   obtain ⟨x7, hx, h⟩ := bnd_some h
   refine OpsR.splitAt 4 (J := fun st => ∃ g3 g4 g6 : Nat, Is [(2, .int .i64 a2), (3, .ptr 3 g3 0), (4, .ptr 4 g4 0), (6, .ptr 6 g6 0), (30, .bool x7)] [(3, g3, some (.box [.sl (List.map c_u32 a0.1.1), .bool a0.1.2, .sl (List.map c_u32 a0.2)])), (4, g4, some (.box [.sl (List.map c_u32 a1.1.1), .bool a1.1.2, .sl (List.map c_u32 a1.2)])), (6, g6, some (.box [.nil, .bool false, .nil]))] st) ?_ ?_
   ·replace h := hx
    rcases ite_some h with ⟨hc, h⟩ | ⟨hc, h⟩
    ·refine OpsR.setB (t := 26) rfl hc ?_
     refine oc ?_
     refine S.off rfl (by decide) ?_
     refine oc ?_
     refine S.off rfl (by decide) ?_
     refine oc ?_
     refine S.off rfl (by decide) ?_
     refine oc ?_
     refine S.pick rfl rfl rfl rfl ?_
     obtain rfl := some_inj h
     refine oz ?_
     exact ⟨_, _, _, ⟨rfl, rfl, rfl, rfl, rfl, trivial⟩, ⟨rfl, rfl, rfl, trivial⟩⟩
    ·refine OpsR.setB (t := 26) rfl hc ?_
     refine oc ?_
     refine S.on rfl ?_
     refine S.loadP rfl rfl rfl ?_
     obtain ⟨v6, h_v6, h⟩ := bnd_some h
     refine oc ?_
     refine S.on rfl ?_
     refine S.call (And.intro rfl rfl) (r15 a1 _ h_v6) rfl ?_
     refine oc ?_
     refine S.on rfl ?_
     refine S.lss rfl rfl rfl ?_
     refine oc ?_
     refine S.pick rfl rfl rfl rfl ?_
     obtain rfl := some_inj h
     refine oz ?_
     exact ⟨_, _, _, ⟨rfl, rfl, rfl, rfl, rfl, trivial⟩, ⟨rfl, rfl, rfl, trivial⟩⟩
   ·rintro st ⟨g3, g4, g6, hI⟩
    have hI : Is _ _ _ := hI
    revert hI
    refine fun hI => hI.elim ?_
    intro e H
    refine oz ?_
    rcases ite_some h with ⟨hc, h⟩ | ⟨hc, h⟩
    ·refine Run.setB (t := 30) rfl hc ?_
     refine Run.condT rfl ?_
     refine rs ?_
     refine ro ?_
     refine oc ?_
     refine S.build (And.intro rfl rfl) rfl ?_
     refine oc ?_
     refine S.storeP rfl rfl rfl rfl rfl rfl (Nat.le_of_ble_eq_true rfl) rfl ?_
     refine oc ?_
     refine S.move rfl ?_
     refine oz ?_
     refine Run.ret ?_
     obtain rfl := some_inj h
     exact FinS.fin (End.all (And.intro rfl rfl))
    ·refine Run.setB (t := 30) rfl hc ?_
     refine Run.condF rfl ?_
     refine Run.skip ?_
     refine rs ?_
     refine Run.drawn ?_
     refine d1 (x := (_, _)) rfl rfl ?_
     refine S.loadP rfl rfl rfl ?_
     refine d1 (x := (_, _)) rfl rfl ?_
     refine S.loadP rfl rfl rfl ?_
     obtain ⟨v8, h_v8, h⟩ := bnd_some h
     refine d1 (x := (_, _)) rfl rfl ?_
     refine S.call (And.intro rfl rfl) (r45 a0 _ h_v8) rfl ?_
     refine d1 (x := (_, _)) rfl rfl ?_
     refine S.buildSlM (c := c_ratio_Rat) (l := ([v8] : List T_ratio_Rat)) (And.intro rfl rfl) rfl rfl rfl ?_
     obtain ⟨v9, h_v9, h⟩ := bnd_some h
     refine d2 (x := (_, _)) (y := (_, _)) rfl rfl ?_
     refine S.call (And.intro rfl (And.intro rfl (And.intro rfl (And.intro rfl rfl)))) (r12 a1 ([v8] : List T_ratio_Rat) _ h_v9) rfl ?_
     refine d1 (x := (_, _)) rfl rfl ?_
     refine S.alloc rfl ?_
     refine d1 (x := (_, _)) rfl rfl ?_
     refine S.storeP rfl rfl rfl rfl rfl rfl (Nat.le_of_ble_eq_true rfl) rfl ?_
     refine DrawR.nil ?_
     refine rs ?_
     refine rs ?_
     refine ro ?_
     refine oc ?_
     refine S.loadP rfl rfl rfl ?_
     obtain ⟨v10, h_v10, h⟩ := bnd_some h
     refine oc ?_
     refine S.call (And.intro rfl rfl) (r15 v9 _ h_v10) rfl ?_
     refine oc ?_
     refine S.lss rfl rfl rfl ?_
     refine oz ?_
     refine Run.cutJ (J := fun st => ∃ g3 g6 g8 : Nat, Is [(2, .int .i64 a2), (3, .ptr 3 g3 0), (6, .ptr 6 g6 0), (8, .ptr 8 g8 0), (39, .bool (decide (v10 < 0)))] [(3, g3, some (.box [.sl (List.map c_u32 a0.1.1), .bool a0.1.2, .sl (List.map c_u32 a0.2)])), (6, g6, some (.box [.nil, .bool false, .nil])), (8, g8, some (.box [.sl (List.map c_u32 v9.1.1), .bool v9.1.2, .sl (List.map c_u32 v9.2)]))] st) ⟨_, _, _, ⟨rfl, rfl, rfl, rfl, rfl, trivial⟩, ⟨rfl, rfl, rfl, trivial⟩⟩ ?_
     rintro st ⟨g3, g6, g8, hI⟩
     have hI : Is _ _ _ := hI
     revert hI
     refine fun hI => hI.elim ?_
     intro e H
     rcases ite_some h with ⟨hc, h⟩ | ⟨hc, h⟩
     ·refine Run.setB (t := 39) rfl hc ?_
      refine Run.condT rfl ?_
      refine rs ?_
      refine ro ?_
      refine oc ?_
      refine S.build (And.intro rfl rfl) rfl ?_
      refine oc ?_
      refine S.storeP rfl rfl rfl rfl rfl rfl (Nat.le_of_ble_eq_true rfl) rfl ?_
      refine oc ?_
      refine S.move rfl ?_
      refine oz ?_
      refine Run.ret ?_
      obtain rfl := some_inj h
      exact FinS.fin (End.all (And.intro rfl rfl))
     ·refine Run.setB (t := 39) rfl hc ?_
      refine Run.condF rfl ?_
      refine Run.skip ?_
      refine rs ?_
      obtain ⟨x12, hx, h⟩ := bnd_some h
      refine Run.joinG (X := (XOne .normal (fun (x : List Int × Bool × List Int × List Int × Bool × List Int) (st : St) => ∃ g3 g6 g8 : Nat, Is [(2, .int .i64 a2), (3, .ptr 3 g3 0), (6, .ptr 6 g6 0), (8, .ptr 8 g8 0)] [(3, g3, some (.box [.sl (List.map c_u32 x.1), .bool x.2.1, .sl (List.map c_u32 x.2.2.1)])), (6, g6, some (.box [.nil, .bool false, .nil])), (8, g8, some (.box [.sl (List.map c_u32 x.2.2.2.1), .bool x.2.2.2.2.1, .sl (List.map c_u32 x.2.2.2.2.2)]))] st))) (x := x12) ?_ ?_
      ·replace h := hx
       refine rs ?_
       refine ro ?_
       refine oc ?_
       refine S.loadP rfl rfl rfl ?_
       refine oc ?_
       refine S.loadP rfl rfl rfl ?_
       obtain ⟨v11, h_v11, h⟩ := bnd_some h
       refine oc ?_
       refine S.call (And.intro rfl rfl) (r11 v9 a0 _ h_v11) rfl ?_
       refine oc ?_
       refine S.lss rfl rfl rfl ?_
       refine oz ?_
       rcases ite_some h with ⟨hc, h⟩ | ⟨hc, h⟩
       ·refine Run.setB (t := 44) rfl hc ?_
        refine Run.condT rfl ?_
        refine ro ?_
        refine oc ?_
        refine S.loadP rfl rfl rfl ?_
        refine oc ?_
        refine S.loadP rfl rfl rfl ?_
        refine oc ?_
        refine S.storeP rfl rfl rfl rfl rfl rfl (Nat.le_of_ble_eq_true rfl) rfl ?_
        refine oc ?_
        refine S.storeP rfl rfl rfl rfl rfl rfl (Nat.le_of_ble_eq_true rfl) rfl ?_
        refine oz ?_
        obtain rfl := some_inj h
        refine JP.mk ?_
        exact Leaf.done (XOne.mk ⟨_, _, _, ⟨rfl, rfl, rfl, rfl, trivial⟩, ⟨rfl, rfl, rfl, trivial⟩⟩)
       ·refine Run.setB (t := 44) rfl hc ?_
        refine Run.condF rfl ?_
        refine Run.skip ?_
        obtain rfl := some_inj h
        refine JP.mk ?_
        exact Leaf.done (XOne.mk ⟨_, _, _, ⟨rfl, rfl, rfl, rfl, trivial⟩, ⟨rfl, rfl, rfl, trivial⟩⟩)
      ·intro e0 st0 hX
       rcases hX with ⟨hX⟩
       obtain ⟨g3, g6, g8, hI⟩ := hX
       revert hI
       refine fun hI => hI.elim ?_
       intro e H
       refine rs ?_
       refine ro ?_
       refine oc ?_
       refine S.loadP rfl rfl rfl ?_
       obtain ⟨v13, h_v13, h⟩ := bnd_some h
       refine oc ?_
       refine S.call (And.intro rfl rfl) (r44 ((x12.1, x12.2.1), x12.2.2.1) _ h_v13) rfl ?_
       refine oc ?_
       refine S.move rfl ?_
       refine oc ?_
       refine S.extract rfl rfl ?_
       refine oc ?_
       refine S.extract rfl rfl ?_
       refine oc ?_
       refine S.move rfl ?_
       refine oc ?_
       refine S.move rfl ?_
       refine oz ?_
       refine rs ?_
       refine ro ?_
       obtain ⟨v14, h_v14, h⟩ := bnd_some h
       refine oc ?_
       refine S.call (And.intro rfl rfl) (r32 1 _ h_v14) rfl ?_
       refine oc ?_
       refine S.alloc rfl ?_
       refine oc ?_
       refine S.storeP rfl rfl rfl rfl rfl rfl (Nat.le_of_ble_eq_true rfl) rfl ?_
       refine oz ?_
       refine rs ?_
       refine rs ?_
       refine ro ?_
       refine oc ?_
       refine S.move rfl ?_
       refine oz ?_
       refine Run.block ?_
       obtain ⟨x24, hx, h⟩ := bnd_some h
       refine Run.iter (I := (fun (s : Int × List Int × Bool) (st : St) => ∃ g6 g8 g11 : Nat, Is [(2, .int .i64 a2), (6, .ptr 6 g6 0), (8, .ptr 8 g8 0), (9, .int .i64 v13.1), (10, .bool v13.2), (11, .ptr 11 g11 0), (12, .int .i64 s.1)] [(6, g6, some (.box [.nil, .bool false, .nil])), (8, g8, some (.box [.sl (List.map c_u32 x12.2.2.2.1), .bool x12.2.2.2.2.1, .sl (List.map c_u32 x12.2.2.2.2.2)])), (11, g11, some (.box [.sl (List.map c_u32 s.2.1), .bool s.2.2]))] st)) (X := (XSum (XOne (.exit 0) (fun (x : List Int × Bool) (st : St) => ∃ g6 g11 : Nat, Is [(6, .ptr 6 g6 0), (11, .ptr 11 g11 0)] [(6, g6, some (.box [.nil, .bool false, .nil])), (11, g11, some (.box [.sl (List.map c_u32 x.1), .bool x.2]))] st)) (XRet [.cell 6 (some 3), .tmp 7] (fun (x : T_ratio_Rat × Int) => .tup [.agg (c_ratio_Rat x.1), .int .i64 x.2])))) hx ?_ ?_ ?_
       ·exact ⟨_, _, _, ⟨rfl, rfl, rfl, rfl, rfl, rfl, rfl, trivial⟩, ⟨rfl, rfl, rfl, trivial⟩⟩
       ·rintro s15 st ⟨g6, g8, g11, hI⟩ o h
        have hI : Is _ _ _ := hI
        revert hI
        refine fun hI => hI.elim ?_
        intro e H
        refine rs ?_
        refine rs ?_
        refine ro ?_
        refine oc ?_
        refine S.move rfl ?_
        refine oc ?_
        refine S.not rfl rfl ?_
        refine oc ?_
        refine S.move rfl ?_
        obtain ⟨x16, hx, h⟩ := lt_some h
        refine OpsR.splitAt 4 (J := fun st => ∃ g6 g8 g11 : Nat, Is [(2, .int .i64 a2), (6, .ptr 6 g6 0), (8, .ptr 8 g8 0), (9, .int .i64 v13.1), (10, .bool v13.2), (11, .ptr 11 g11 0), (12, .int .i64 s15.1), (59, .bool x16)] [(6, g6, some (.box [.nil, .bool false, .nil])), (8, g8, some (.box [.sl (List.map c_u32 x12.2.2.2.1), .bool x12.2.2.2.2.1, .sl (List.map c_u32 x12.2.2.2.2.2)])), (11, g11, some (.box [.sl (List.map c_u32 s15.2.1), .bool s15.2.2]))] st) ?_ ?_
        ·replace h := hx
         rcases itep h with ⟨hc, h⟩ | ⟨hc, h⟩
         ·refine OpsR.setB (t := 55) rfl hc ?_
          refine oc ?_
          refine S.off rfl (by decide) ?_
          refine oc ?_
          refine S.off rfl (by decide) ?_
          refine oc ?_
          refine S.off rfl (by decide) ?_
          refine oc ?_
          refine S.pick rfl rfl rfl rfl ?_
          obtain rfl := some_inj h
          refine oz ?_
          exact ⟨_, _, _, ⟨rfl, rfl, rfl, rfl, rfl, rfl, rfl, rfl, trivial⟩, ⟨rfl, rfl, rfl, trivial⟩⟩
         ·refine OpsR.setB (t := 55) rfl hc ?_
          refine oc ?_
          refine S.on rfl ?_
          refine S.move rfl ?_
          refine oc ?_
          refine S.on rfl ?_
          refine S.move rfl ?_
          refine oc ?_
          refine S.on rfl ?_
          refine S.leq rfl rfl rfl ?_
          refine oc ?_
          refine S.pick rfl rfl rfl rfl ?_
          obtain rfl := some_inj h
          refine oz ?_
          exact ⟨_, _, _, ⟨rfl, rfl, rfl, rfl, rfl, rfl, rfl, rfl, trivial⟩, ⟨rfl, rfl, rfl, trivial⟩⟩
        ·rintro st ⟨g6, g8, g11, hI⟩
         have hI : Is _ _ _ := hI
         revert hI
         refine fun hI => hI.elim ?_
         intro e H
         refine oz ?_
         rcases ite_some h with ⟨hc, h⟩ | ⟨hc, h⟩
         ·refine Run.setB (t := 59) rfl hc ?_
          refine Run.condT rfl ?_
          refine Run.skip ?_
          refine rs ?_
          refine Run.block ?_
          refine rs ?_
          refine Run.drawn ?_
          refine d1 (x := (_, _)) rfl rfl ?_
          refine S.loadP rfl rfl rfl ?_
          refine d1 (x := (_, _)) rfl rfl ?_
          refine S.loadP rfl rfl rfl ?_
          obtain ⟨v17, h_v17, h⟩ := bnd_some h
          refine d1 (x := (_, _)) rfl rfl ?_
          refine S.call (And.intro rfl rfl) (r69 ((x12.2.2.2.1, x12.2.2.2.2.1), x12.2.2.2.2.2) _ h_v17) rfl ?_
          refine d0 rfl ?_
          refine S.move rfl ?_
          obtain ⟨v18, h_v18, h⟩ := bnd_some h
          refine d1 (x := (_, _)) rfl rfl ?_
          refine S.call (And.intro rfl rfl) (r32 s15.1 _ h_v18) rfl ?_
          refine d1 (x := (_, _)) rfl rfl ?_
          refine S.buildSlM (c := c_whole_Int) (l := ([v18] : List T_whole_Int)) (And.intro rfl rfl) rfl rfl rfl ?_
          obtain ⟨v19, h_v19, h⟩ := bnd_some h
          refine d2 (x := (_, _)) (y := (_, _)) rfl rfl ?_
          refine S.call (And.intro rfl (And.intro rfl (And.intro rfl (And.intro rfl rfl)))) (r31 v17 ([v18] : List T_whole_Int) _ h_v19) rfl ?_
          refine d1 (x := (_, _)) rfl rfl ?_
          refine S.buildSlM (c := c_whole_Int) (l := ([v19] : List T_whole_Int)) (And.intro rfl rfl) rfl rfl rfl ?_
          obtain ⟨v20, h_v20, h⟩ := bnd_some h
          refine d2 (x := (_, _)) (y := (_, _)) rfl rfl ?_
          refine S.call (And.intro rfl (And.intro rfl (And.intro rfl (And.intro rfl rfl)))) (r27 s15.2 ([v19] : List T_whole_Int) _ h_v20) rfl ?_
          refine d0 rfl ?_
          refine S.move rfl ?_
          obtain ⟨v21, h_v21, h⟩ := bnd_some h
          refine d1 (x := (_, _)) rfl rfl ?_
          refine S.call (And.intro rfl rfl) (r32 s15.1 _ h_v21) rfl ?_
          obtain ⟨v22, h_v22, h⟩ := bnd_some h
          refine d1 (x := (_, _)) rfl rfl ?_
          refine S.call (And.intro rfl rfl) (r72 v20 v21 _ h_v22) rfl ?_
          refine d0 rfl ?_
          refine S.move rfl ?_
          refine d0 rfl ?_
          refine S.extract rfl rfl ?_
          refine d0 rfl ?_
          refine S.extract rfl rfl ?_
          refine d0 rfl ?_
          refine S.extract rfl rfl ?_
          refine d1 (x := (_, _)) rfl rfl ?_
          refine S.storeP rfl rfl rfl rfl rfl rfl (Nat.le_of_ble_eq_true rfl) rfl ?_
          refine DrawR.nil ?_
          refine Run.cutJ (J := fun st => ∃ g6 g8 g11 : Nat, Is [(2, .int .i64 a2), (6, .ptr 6 g6 0), (8, .ptr 8 g8 0), (9, .int .i64 v13.1), (10, .bool v13.2), (11, .ptr 11 g11 0), (12, .int .i64 s15.1)] [(6, g6, some (.box [.nil, .bool false, .nil])), (8, g8, some (.box [.sl (List.map c_u32 x12.2.2.2.1), .bool x12.2.2.2.2.1, .sl (List.map c_u32 x12.2.2.2.2.2)])), (11, g11, some (.box [.sl (List.map c_u32 v22.1.1), .bool v22.1.2]))] st) ⟨_, _, _, ⟨rfl, rfl, rfl, rfl, rfl, rfl, rfl, trivial⟩, ⟨rfl, rfl, rfl, trivial⟩⟩ ?_
          rintro st ⟨g6, g8, g11, hI⟩
          have hI : Is _ _ _ := hI
          revert hI
          refine fun hI => hI.elim ?_
          intro e H
          refine rs ?_
          refine ro ?_
          refine oc ?_
          refine S.faddrP rfl rfl ?_
          refine oc ?_
          refine S.loadP rfl rfl rfl ?_
          obtain ⟨v23, h_v23, h⟩ := bnd_some h
          refine oc ?_
          refine S.call (And.intro rfl rfl) (r50 v22.1.1 _ h_v23) rfl ?_
          refine oc ?_
          refine S.move rfl ?_
          refine oc ?_
          refine S.gtr rfl rfl rfl ?_
          refine oz ?_
          rcases ite_some h with ⟨hc, h⟩ | ⟨hc, h⟩
          ·refine Run.setB (t := 82) rfl hc ?_
           refine Run.condT rfl ?_
           refine rs ?_
           refine ro ?_
           refine oc ?_
           refine S.build (And.intro rfl rfl) rfl ?_
           refine oc ?_
           refine S.storeP rfl rfl rfl rfl rfl rfl (Nat.le_of_ble_eq_true rfl) rfl ?_
           refine oc ?_
           refine S.move rfl ?_
           refine oz ?_
           refine Run.ret ?_
           obtain rfl := some_inj h
           exact LoopPost.out nofun (Leaf.done (XSum.r (XRet.mk (FinS.fin (End.all (And.intro rfl rfl))))))
          ·refine Run.setB (t := 82) rfl hc ?_
           refine Run.condF rfl ?_
           refine Run.skip ?_
           refine ro ?_
           refine oc ?_
           refine S.move rfl ?_
           refine oc ?_
           refine S.add rfl rfl rfl ?_
           refine oc ?_
           refine S.move rfl ?_
           refine oz ?_
           obtain rfl := some_inj h
           refine LoopPost.next ?_
           exact Leaf.done ⟨_, _, _, ⟨rfl, rfl, rfl, rfl, rfl, rfl, rfl, trivial⟩, ⟨rfl, rfl, rfl, trivial⟩⟩
         ·refine Run.setB (t := 59) rfl hc ?_
          refine Run.condF rfl ?_
          refine Run.exit ?_
          obtain rfl := some_inj h
          refine LoopPost.out nofun ?_
          exact Leaf.done (XSum.l (XOne.mk ⟨_, _, ⟨rfl, rfl, trivial⟩, ⟨rfl, rfl, trivial⟩⟩))
       ·intro e0 st0 hX
        revert h hX
        rcases x24 with x25 | x26
        ·intro h hX
         replace h := sm_l h
         replace hX := XSum.invl hX
         rcases hX with ⟨hX⟩
         obtain ⟨g6, g11, hI⟩ := hX
         revert hI
         refine fun hI => hI.elim ?_
         intro e H
         refine rs ?_
         refine ro ?_
         refine oc ?_
         refine S.loadP rfl rfl rfl ?_
         obtain ⟨v27, h_v27, h⟩ := bnd_some h
         refine oc ?_
         refine S.call (And.intro rfl rfl) (r66 x25 _ h_v27) rfl ?_
         refine oc ?_
         refine S.storeP rfl rfl rfl rfl rfl rfl (Nat.le_of_ble_eq_true rfl) rfl ?_
         refine oc ?_
         refine S.move rfl ?_
         refine oz ?_
         refine Run.ret ?_
         obtain rfl := some_inj h
         exact FinS.fin (End.all (And.intro rfl rfl))
        ·intro h hX
         replace h := sm_r h
         replace hX := XSum.invr hX
         rcases hX with ⟨hf⟩
         obtain rfl := some_inj h
         exact hf

theorem r25 (a0 : Int) (a1 : T_ratio_Rat) (a2 : T_ratio_Rat) (a3 : Int) (r : T_ratio_Rat × Int) (h : dyad_reckon a0 a1 a2 a3 = some r) : Fn Try.prog 25 [.int .i32 a0, .agg (c_ratio_Rat a1), .agg (c_ratio_Rat a2), .int .i64 a3] (.tup [.agg (c_ratio_Rat r.1), .int .i64 r.2]) := by
 unfold dyad_reckon at h
 refine Fn.ofS hm Try.func25 t25 (Nat.le_of_ble_eq_true rfl) ?_
 refine rs ?_
 refine ro ?_
 refine oc ?_
 refine S.box rfl rfl rfl rfl ?_
 refine oc ?_
 refine S.box rfl rfl rfl rfl ?_
 refine oc ?_
 refine S.alloc rfl ?_
 refine oc ?_
 refine S.move rfl ?_
 refine oz ?_
 refine rs ?_
 refine rs ?_
 refine ro ?_
 refine oc ?_
 refine S.move rfl ?_
 refine oz ?_
 refine Run.block ?_
 refine rs ?_
 refine ro ?_
 refine oc ?_
 refine S.eql rfl rfl rfl ?_
 refine oc ?_
 refine S.move rfl ?_
 refine oz ?_
 rcases ite_some h with ⟨hc, h⟩ | ⟨hc, h⟩
 ·refine Run.setB (t := 13) rfl hc ?_
  refine Run.condT rfl ?_
  refine rs ?_
  refine ro ?_
  refine oc ?_
  refine S.loadP rfl rfl rfl ?_
  refine oc ?_
  refine S.loadP rfl rfl rfl ?_
  refine oc ?_
  refine S.buildSlM (c := c_ratio_Rat) (l := ([a2] : List T_ratio_Rat)) (And.intro rfl rfl) rfl rfl rfl ?_
  obtain ⟨v1, h_v1, h⟩ := bnd_some h
  refine oc ?_
  refine S.call (And.intro rfl (And.intro rfl (And.intro rfl (And.intro rfl rfl)))) (r12 a1 ([a2] : List T_ratio_Rat) _ h_v1) rfl ?_
  refine oc ?_
  refine S.storeP rfl rfl rfl rfl rfl rfl (Nat.le_of_ble_eq_true rfl) rfl ?_
  refine oc ?_
  refine S.move rfl ?_
  refine oz ?_
  refine Run.cutJ (J := fun st => ∃ g8 : Nat, Is [(8, .ptr 8 g8 0), (9, .int .i64 0)] [(8, g8, some (.box [.sl (List.map c_u32 v1.1.1), .bool v1.1.2, .sl (List.map c_u32 v1.2)]))] st) ⟨_, ⟨rfl, rfl, trivial⟩, ⟨rfl, trivial⟩⟩ ?_
  rintro st ⟨g8, hI⟩
  have hI : Is _ _ _ := hI
  revert hI
  refine fun hI => hI.elim ?_
  intro e H
  refine Run.ret ?_
  obtain rfl := some_inj h
  exact FinS.fin (End.all (And.intro rfl rfl))
 ·refine Run.setB (t := 13) rfl hc ?_
  refine Run.condF rfl ?_
  refine rs ?_
  refine ro ?_
  refine oc ?_
  refine S.eql rfl rfl rfl ?_
  refine oc ?_
  refine S.move rfl ?_
  refine oz ?_
  refine Run.cutJ (J := fun st => ∃ g5 g6 g8 : Nat, Is [(3, .int .i64 a3), (5, .ptr 5 g5 0), (6, .ptr 6 g6 0), (8, .ptr 8 g8 0), (12, .int .i32 a0), (19, .bool (decide (a0 = 45)))] [(5, g5, some (.box [.sl (List.map c_u32 a1.1.1), .bool a1.1.2, .sl (List.map c_u32 a1.2)])), (6, g6, some (.box [.sl (List.map c_u32 a2.1.1), .bool a2.1.2, .sl (List.map c_u32 a2.2)])), (8, g8, some (.box [.nil, .bool false, .nil]))] st) ⟨_, _, _, ⟨rfl, rfl, rfl, rfl, rfl, rfl, trivial⟩, ⟨rfl, rfl, rfl, trivial⟩⟩ ?_
  rintro st ⟨g5, g6, g8, hI⟩
  have hI : Is _ _ _ := hI
  revert hI
  refine fun hI => hI.elim ?_
  intro e H
  rcases ite_some h with ⟨hc, h⟩ | ⟨hc, h⟩
  ·refine Run.setB (t := 19) rfl hc ?_
   refine Run.condT rfl ?_
   refine rs ?_
   refine Run.drawn ?_
   refine d1 (x := (_, _)) rfl rfl ?_
   refine S.loadP rfl rfl rfl ?_
   refine d1 (x := (_, _)) rfl rfl ?_
   refine S.loadP rfl rfl rfl ?_
   obtain ⟨v2, h_v2, h⟩ := bnd_some h
   refine d1 (x := (_, _)) rfl rfl ?_
   refine S.call (And.intro rfl rfl) (r45 a2 _ h_v2) rfl ?_
   refine d1 (x := (_, _)) rfl rfl ?_
   refine S.buildSlM (c := c_ratio_Rat) (l := ([v2] : List T_ratio_Rat)) (And.intro rfl rfl) rfl rfl rfl ?_
   obtain ⟨v3, h_v3, h⟩ := bnd_some h
   refine d2 (x := (_, _)) (y := (_, _)) rfl rfl ?_
   refine S.call (And.intro rfl (And.intro rfl (And.intro rfl (And.intro rfl rfl)))) (r12 a1 ([v2] : List T_ratio_Rat) _ h_v3) rfl ?_
   refine d1 (x := (_, _)) rfl rfl ?_
   refine S.storeP rfl rfl rfl rfl rfl rfl (Nat.le_of_ble_eq_true rfl) rfl ?_
   refine d0 rfl ?_
   refine S.move rfl ?_
   refine DrawR.nil ?_
   refine Run.ret ?_
   obtain rfl := some_inj h
   exact FinS.fin (End.all (And.intro rfl rfl))
  ·refine Run.setB (t := 19) rfl hc ?_
   refine Run.condF rfl ?_
   refine rs ?_
   refine ro ?_
   refine oc ?_
   refine S.eql rfl rfl rfl ?_
   refine oc ?_
   refine S.move rfl ?_
   refine oz ?_
   rcases ite_some h with ⟨hc, h⟩ | ⟨hc, h⟩
   ·refine Run.setB (t := 26) rfl hc ?_
    refine Run.condT rfl ?_
    refine rs ?_
    refine ro ?_
    refine oc ?_
    refine S.loadP rfl rfl rfl ?_
    refine oc ?_
    refine S.loadP rfl rfl rfl ?_
    refine oc ?_
    refine S.buildSlM (c := c_ratio_Rat) (l := ([a2] : List T_ratio_Rat)) (And.intro rfl rfl) rfl rfl rfl ?_
    obtain ⟨v4, h_v4, h⟩ := bnd_some h
    refine oc ?_
    refine S.call (And.intro rfl (And.intro rfl (And.intro rfl (And.intro rfl rfl)))) (r14 a1 ([a2] : List T_ratio_Rat) _ h_v4) rfl ?_
    refine oc ?_
    refine S.storeP rfl rfl rfl rfl rfl rfl (Nat.le_of_ble_eq_true rfl) rfl ?_
    refine oc ?_
    refine S.move rfl ?_
    refine oz ?_
    refine Run.ret ?_
    obtain rfl := some_inj h
    exact FinS.fin (End.all (And.intro rfl rfl))
   ·refine Run.setB (t := 26) rfl hc ?_
    refine Run.condF rfl ?_
    refine rs ?_
    refine ro ?_
    refine oc ?_
    refine S.eql rfl rfl rfl ?_
    refine oc ?_
    refine S.move rfl ?_
    refine oz ?_
    rcases ite_some h with ⟨hc, h⟩ | ⟨hc, h⟩
    ·refine Run.setB (t := 32) rfl hc ?_
     refine Run.condT rfl ?_
     refine rs ?_
     refine rs ?_
     refine ro ?_
     refine oc ?_
     refine S.loadP rfl rfl rfl ?_
     obtain ⟨v5, h_v5, h⟩ := bnd_some h
     refine oc ?_
     refine S.call (And.intro rfl rfl) (r15 a1 _ h_v5) rfl ?_
     refine oc ?_
     refine S.eql rfl rfl rfl ?_
     refine oc ?_
     refine S.move rfl ?_
     obtain ⟨x7, hx, h⟩ := bnd_some h
     refine OpsR.splitAt 4 (J := fun st => ∃ g5 g6 g8 : Nat, Is [(5, .ptr 5 g5 0), (6, .ptr 6 g6 0), (8, .ptr 8 g8 0), (41, .bool x7)] [(5, g5, some (.box [.sl (List.map c_u32 a1.1.1), .bool a1.1.2, .sl (List.map c_u32 a1.2)])), (6, g6, some (.box [.sl (List.map c_u32 a2.1.1), .bool a2.1.2, .sl (List.map c_u32 a2.2)])), (8, g8, some (.box [.nil, .bool false, .nil]))] st) ?_ ?_
     ·replace h := hx
      rcases ite_some h with ⟨hc, h⟩ | ⟨hc, h⟩
      ·refine OpsR.setB (t := 37) rfl hc ?_
       refine oc ?_
       refine S.on rfl ?_
       refine S.loadP rfl rfl rfl ?_
       obtain ⟨v6, h_v6, h⟩ := bnd_some h
       refine oc ?_
       refine S.on rfl ?_
       refine S.call (And.intro rfl rfl) (r15 a2 _ h_v6) rfl ?_
       refine oc ?_
       refine S.on rfl ?_
       refine S.eql rfl rfl rfl ?_
       refine oc ?_
       refine S.pick rfl rfl rfl rfl ?_
       obtain rfl := some_inj h
       refine oz ?_
       exact ⟨_, _, _, ⟨rfl, rfl, rfl, rfl, trivial⟩, ⟨rfl, rfl, rfl, trivial⟩⟩
      ·refine OpsR.setB (t := 37) rfl hc ?_
       refine oc ?_
       refine S.off rfl (by decide) ?_
       refine oc ?_
       refine S.off rfl (by decide) ?_
       refine oc ?_
       refine S.off rfl (by decide) ?_
       refine oc ?_
       refine S.pick rfl rfl rfl rfl ?_
       obtain rfl := some_inj h
       refine oz ?_
       exact ⟨_, _, _, ⟨rfl, rfl, rfl, rfl, trivial⟩, ⟨rfl, rfl, rfl, trivial⟩⟩
     ·rintro st ⟨g5, g6, g8, hI⟩
      have hI : Is _ _ _ := hI
      revert hI
      refine fun hI => hI.elim ?_
      intro e H
      refine oz ?_
      rcases ite_some h with ⟨hc, h⟩ | ⟨hc, h⟩
      ·refine Run.setB (t := 41) rfl hc ?_
       refine Run.condT rfl ?_
       refine rs ?_
       refine ro ?_
       obtain ⟨v8, h_v8, h⟩ := bnd_some h
       refine oc ?_
       refine S.call (And.intro rfl rfl) (r13 1 _ h_v8) rfl ?_
       refine oc ?_
       refine S.storeP rfl rfl rfl rfl rfl rfl (Nat.le_of_ble_eq_true rfl) rfl ?_
       refine oc ?_
       refine S.move rfl ?_
       refine oz ?_
       refine Run.ret ?_
       obtain rfl := some_inj h
       exact FinS.fin (End.all (And.intro rfl rfl))
      ·refine Run.setB (t := 41) rfl hc ?_
       refine Run.condF rfl ?_
       refine Run.skip ?_
       refine rs ?_
       refine ro ?_
       refine oc ?_
       refine S.loadP rfl rfl rfl ?_
       refine oc ?_
       refine S.loadP rfl rfl rfl ?_
       obtain ⟨v9, h_v9, h⟩ := bnd_some h
       refine oc ?_
       refine S.call (And.intro rfl rfl) (r46 a1 a2 _ h_v9) rfl ?_
       refine oc ?_
       refine S.move rfl ?_
       refine oc ?_
       refine S.extract rfl rfl ?_
       refine oc ?_
       refine S.extract rfl rfl ?_
       refine oc ?_
       refine S.alloc rfl ?_
       refine oc ?_
       refine S.storeP rfl rfl rfl rfl rfl rfl (Nat.le_of_ble_eq_true rfl) rfl ?_
       refine oc ?_
       refine S.move rfl ?_
       refine oz ?_
       refine rs ?_
       refine rs ?_
       refine ro ?_
       refine oc ?_
       refine S.move rfl ?_
       refine oc ?_
       refine S.not rfl rfl ?_
       refine oz ?_
       refine Run.cutJ (J := fun st => ∃ g8 g10 : Nat, Is [(8, .ptr 8 g8 0), (10, .ptr 10 g10 0), (50, .bool (!v9.2))] [(8, g8, some (.box [.nil, .bool false, .nil])), (10, g10, some (.box [.sl (List.map c_u32 v9.1.1.1), .bool v9.1.1.2, .sl (List.map c_u32 v9.1.2)]))] st) ⟨_, _, ⟨rfl, rfl, rfl, trivial⟩, ⟨rfl, rfl, trivial⟩⟩ ?_
       rintro st ⟨g8, g10, hI⟩
       have hI : Is _ _ _ := hI
       revert hI
       refine fun hI => hI.elim ?_
       intro e H
       rcases ite_some h with ⟨hc, h⟩ | ⟨hc, h⟩
       ·refine Run.setB (t := 50) rfl hc ?_
        refine Run.condT rfl ?_
        refine rs ?_
        refine ro ?_
        refine oc ?_
        refine S.loadP rfl rfl rfl ?_
        refine oc ?_
        refine S.storeP rfl rfl rfl rfl rfl rfl (Nat.le_of_ble_eq_true rfl) rfl ?_
        refine oc ?_
        refine S.move rfl ?_
        refine oz ?_
        refine Run.ret ?_
        obtain rfl := some_inj h
        exact FinS.fin (End.all (And.intro rfl rfl))
       ·refine Run.setB (t := 50) rfl hc ?_
        refine Run.condF rfl ?_
        refine Run.skip ?_
        refine rs ?_
        refine ro ?_
        refine oc ?_
        refine S.loadP rfl rfl rfl ?_
        refine oc ?_
        refine S.storeP rfl rfl rfl rfl rfl rfl (Nat.le_of_ble_eq_true rfl) rfl ?_
        refine oc ?_
        refine S.move rfl ?_
        refine oz ?_
        refine Run.ret ?_
        obtain rfl := some_inj h
        exact FinS.fin (End.all (And.intro rfl rfl))
    ·refine Run.setB (t := 32) rfl hc ?_
     refine Run.condF rfl ?_
     refine rs ?_
     refine ro ?_
     refine oc ?_
     refine S.eql rfl rfl rfl ?_
     refine oc ?_
     refine S.move rfl ?_
     refine oz ?_
     rcases ite_some h with ⟨hc, h⟩ | ⟨hc, h⟩
     ·refine Run.setB (t := 53) rfl hc ?_
      refine Run.condT rfl ?_
      refine rs ?_
      refine rs ?_
      refine ro ?_
      refine oc ?_
      refine S.loadP rfl rfl rfl ?_
      refine oc ?_
      refine S.loadP rfl rfl rfl ?_
      obtain ⟨v10, h_v10, h⟩ := bnd_some h
      refine oc ?_
      refine S.call (And.intro rfl rfl) (r11 a1 a2 _ h_v10) rfl ?_
      refine oc ?_
      refine S.lss rfl rfl rfl ?_
      refine oz ?_
      refine Run.cutJ (J := fun st => ∃ g5 g6 g8 : Nat, Is [(5, .ptr 5 g5 0), (6, .ptr 6 g6 0), (8, .ptr 8 g8 0), (58, .bool (decide (v10 < 0)))] [(5, g5, some (.box [.sl (List.map c_u32 a1.1.1), .bool a1.1.2, .sl (List.map c_u32 a1.2)])), (6, g6, some (.box [.sl (List.map c_u32 a2.1.1), .bool a2.1.2, .sl (List.map c_u32 a2.2)])), (8, g8, some (.box [.nil, .bool false, .nil]))] st) ⟨_, _, _, ⟨rfl, rfl, rfl, rfl, trivial⟩, ⟨rfl, rfl, rfl, trivial⟩⟩ ?_
      rintro st ⟨g5, g6, g8, hI⟩
      have hI : Is _ _ _ := hI
      revert hI
      refine fun hI => hI.elim ?_
      intro e H
      rcases ite_some h with ⟨hc, h⟩ | ⟨hc, h⟩
      ·refine Run.setB (t := 58) rfl hc ?_
       refine Run.condT rfl ?_
       refine rs ?_
       refine ro ?_
       refine oc ?_
       refine S.loadP rfl rfl rfl ?_
       refine oc ?_
       refine S.storeP rfl rfl rfl rfl rfl rfl (Nat.le_of_ble_eq_true rfl) rfl ?_
       refine oc ?_
       refine S.move rfl ?_
       refine oz ?_
       refine Run.ret ?_
       obtain rfl := some_inj h
       exact FinS.fin (End.all (And.intro rfl rfl))
      ·refine Run.setB (t := 58) rfl hc ?_
       refine Run.condF rfl ?_
       refine Run.skip ?_
       refine rs ?_
       refine ro ?_
       refine oc ?_
       refine S.loadP rfl rfl rfl ?_
       refine oc ?_
       refine S.storeP rfl rfl rfl rfl rfl rfl (Nat.le_of_ble_eq_true rfl) rfl ?_
       refine oc ?_
       refine S.move rfl ?_
       refine oz ?_
       refine Run.ret ?_
       obtain rfl := some_inj h
       exact FinS.fin (End.all (And.intro rfl rfl))
     ·refine Run.setB (t := 53) rfl hc ?_
      refine Run.condF rfl ?_
      refine rs ?_
      refine ro ?_
      refine oc ?_
      refine S.eql rfl rfl rfl ?_
      refine oc ?_
      refine S.move rfl ?_
      refine oz ?_
      rcases ite_some h with ⟨hc, h⟩ | ⟨hc, h⟩
      ·refine Run.setB (t := 61) rfl hc ?_
       refine Run.condT rfl ?_
       refine rs ?_
       refine rs ?_
       refine ro ?_
       refine oc ?_
       refine S.loadP rfl rfl rfl ?_
       refine oc ?_
       refine S.loadP rfl rfl rfl ?_
       obtain ⟨v11, h_v11, h⟩ := bnd_some h
       refine oc ?_
       refine S.call (And.intro rfl rfl) (r11 a1 a2 _ h_v11) rfl ?_
       refine oc ?_
       refine S.gtr rfl rfl rfl ?_
       refine oz ?_
       refine Run.cutJ (J := fun st => ∃ g5 g6 g8 : Nat, Is [(5, .ptr 5 g5 0), (6, .ptr 6 g6 0), (8, .ptr 8 g8 0), (66, .bool (decide (0 < v11)))] [(5, g5, some (.box [.sl (List.map c_u32 a1.1.1), .bool a1.1.2, .sl (List.map c_u32 a1.2)])), (6, g6, some (.box [.sl (List.map c_u32 a2.1.1), .bool a2.1.2, .sl (List.map c_u32 a2.2)])), (8, g8, some (.box [.nil, .bool false, .nil]))] st) ⟨_, _, _, ⟨rfl, rfl, rfl, rfl, trivial⟩, ⟨rfl, rfl, rfl, trivial⟩⟩ ?_
       rintro st ⟨g5, g6, g8, hI⟩
       have hI : Is _ _ _ := hI
       revert hI
       refine fun hI => hI.elim ?_
       intro e H
       rcases ite_some h with ⟨hc, h⟩ | ⟨hc, h⟩
       ·refine Run.setB (t := 66) rfl hc ?_
        refine Run.condT rfl ?_
        refine rs ?_
        refine ro ?_
        refine oc ?_
        refine S.loadP rfl rfl rfl ?_
        refine oc ?_
        refine S.storeP rfl rfl rfl rfl rfl rfl (Nat.le_of_ble_eq_true rfl) rfl ?_
        refine oc ?_
        refine S.move rfl ?_
        refine oz ?_
        refine Run.ret ?_
        obtain rfl := some_inj h
        exact FinS.fin (End.all (And.intro rfl rfl))
       ·refine Run.setB (t := 66) rfl hc ?_
        refine Run.condF rfl ?_
        refine Run.skip ?_
        refine rs ?_
        refine ro ?_
        refine oc ?_
        refine S.loadP rfl rfl rfl ?_
        refine oc ?_
        refine S.storeP rfl rfl rfl rfl rfl rfl (Nat.le_of_ble_eq_true rfl) rfl ?_
        refine oc ?_
        refine S.move rfl ?_
        refine oz ?_
        refine Run.ret ?_
        obtain rfl := some_inj h
        exact FinS.fin (End.all (And.intro rfl rfl))
      ·refine Run.setB (t := 61) rfl hc ?_
       refine Run.condF rfl ?_
       refine rs ?_
       refine ro ?_
       refine oc ?_
       refine S.eql rfl rfl rfl ?_
       refine oc ?_
       refine S.move rfl ?_
       refine oz ?_
       refine Run.cutJ (J := fun st => ∃ g5 g6 g8 : Nat, Is [(3, .int .i64 a3), (5, .ptr 5 g5 0), (6, .ptr 6 g6 0), (8, .ptr 8 g8 0), (12, .int .i32 a0), (69, .bool (decide (a0 = 124)))] [(5, g5, some (.box [.sl (List.map c_u32 a1.1.1), .bool a1.1.2, .sl (List.map c_u32 a1.2)])), (6, g6, some (.box [.sl (List.map c_u32 a2.1.1), .bool a2.1.2, .sl (List.map c_u32 a2.2)])), (8, g8, some (.box [.nil, .bool false, .nil]))] st) ⟨_, _, _, ⟨rfl, rfl, rfl, rfl, rfl, rfl, trivial⟩, ⟨rfl, rfl, rfl, trivial⟩⟩ ?_
       rintro st ⟨g5, g6, g8, hI⟩
       have hI : Is _ _ _ := hI
       revert hI
       refine fun hI => hI.elim ?_
       intro e H
       rcases ite_some h with ⟨hc, h⟩ | ⟨hc, h⟩
       ·refine Run.setB (t := 69) rfl hc ?_
        refine Run.condT rfl ?_
        refine rs ?_
        refine ro ?_
        refine oc ?_
        refine S.loadP rfl rfl rfl ?_
        refine oc ?_
        refine S.loadP rfl rfl rfl ?_
        obtain ⟨v12, h_v12, h⟩ := bnd_some h
        refine oc ?_
        refine S.call (And.intro rfl rfl) (r47 a1 a2 _ h_v12) rfl ?_
        refine oc ?_
        refine S.storeP rfl rfl rfl rfl rfl rfl (Nat.le_of_ble_eq_true rfl) rfl ?_
        refine oc ?_
        refine S.move rfl ?_
        refine oz ?_
        refine Run.ret ?_
        obtain rfl := some_inj h
        exact FinS.fin (End.all (And.intro rfl rfl))
       ·refine Run.setB (t := 69) rfl hc ?_
        refine Run.condF rfl ?_
        refine rs ?_
        refine ro ?_
        refine oc ?_
        refine S.eql rfl rfl rfl ?_
        refine oc ?_
        refine S.move rfl ?_
        refine oz ?_
        rcases ite_some h with ⟨hc, h⟩ | ⟨hc, h⟩
        ·refine Run.setB (t := 74) rfl hc ?_
         refine Run.condT rfl ?_
         refine rs ?_
         refine ro ?_
         refine oc ?_
         refine S.loadP rfl rfl rfl ?_
         refine oc ?_
         refine S.loadP rfl rfl rfl ?_
         refine oc ?_
         refine S.move rfl ?_
         obtain ⟨v13, h_v13, h⟩ := bnd_some h
         refine oc ?_
         refine S.call (And.intro rfl rfl) (r48 a1 a2 a3 _ h_v13) rfl ?_
         refine oc ?_
         refine S.extract rfl rfl ?_
         refine oc ?_
         refine S.extract rfl rfl ?_
         refine oc ?_
         refine S.storeP rfl rfl rfl rfl rfl rfl (Nat.le_of_ble_eq_true rfl) rfl ?_
         refine oc ?_
         refine S.move rfl ?_
         refine oz ?_
         refine Run.ret ?_
         obtain rfl := some_inj h
         exact FinS.fin (End.all (And.intro rfl rfl))
        ·refine Run.setB (t := 74) rfl hc ?_
         refine Run.condF rfl ?_
         refine rs ?_
         refine ro ?_
         refine oc ?_
         refine S.eql rfl rfl rfl ?_
         refine oc ?_
         refine S.move rfl ?_
         refine oz ?_
         rcases ite_some h with ⟨hc, h⟩ | ⟨hc, h⟩
         ·refine Run.setB (t := 82) rfl hc ?_
          refine Run.condT rfl ?_
          refine rs ?_
          refine ro ?_
          refine oc ?_
          refine S.loadP rfl rfl rfl ?_
          refine oc ?_
          refine S.loadP rfl rfl rfl ?_
          refine oc ?_
          refine S.move rfl ?_
          obtain ⟨v14, h_v14, h⟩ := bnd_some h
          refine oc ?_
          refine S.call (And.intro rfl rfl) (r49 a1 a2 a3 _ h_v14) rfl ?_
          refine oc ?_
          refine S.extract rfl rfl ?_
          refine oc ?_
          refine S.extract rfl rfl ?_
          refine oc ?_
          refine S.storeP rfl rfl rfl rfl rfl rfl (Nat.le_of_ble_eq_true rfl) rfl ?_
          refine oc ?_
          refine S.move rfl ?_
          refine oz ?_
          refine Run.cutJ (J := fun st => ∃ g8 : Nat, Is [(8, .ptr 8 g8 0), (9, .int .i64 v14.2)] [(8, g8, some (.box [.sl (List.map c_u32 v14.1.1.1), .bool v14.1.1.2, .sl (List.map c_u32 v14.1.2)]))] st) ⟨_, ⟨rfl, rfl, trivial⟩, ⟨rfl, trivial⟩⟩ ?_
          rintro st ⟨g8, hI⟩
          have hI : Is _ _ _ := hI
          revert hI
          refine fun hI => hI.elim ?_
          intro e H
          refine Run.ret ?_
          obtain rfl := some_inj h
          exact FinS.fin (End.all (And.intro rfl rfl))
         ·refine Run.setB (t := 82) rfl hc ?_
          refine Run.condF rfl ?_
          refine Run.skip ?_
          refine rs ?_
          refine ro ?_
          refine oc ?_
          refine S.build (And.intro rfl rfl) rfl ?_
          refine oc ?_
          refine S.storeP rfl rfl rfl rfl rfl rfl (Nat.le_of_ble_eq_true rfl) rfl ?_
          refine oc ?_
          refine S.move rfl ?_
          refine oz ?_
          refine Run.ret ?_
          obtain rfl := some_inj h
          exact FinS.fin (End.all (And.intro rfl rfl))

theorem r26 (a0 : T_ratio_Rat) (r : Int) (h : ratio_Rat_Limbs a0 = some r) : Fn Try.prog 26 [.agg (c_ratio_Rat a0)] (.int .i64 r) := by
 unfold ratio_Rat_Limbs at h
 refine Fn.ofS hm Try.func26 t26 (Nat.le_of_ble_eq_true rfl) ?_
 refine rs ?_
 refine ro ?_
 refine oc ?_
 refine S.box rfl rfl rfl rfl ?_
 refine oc ?_
 refine S.move rfl ?_
 refine oz ?_
 refine rs ?_
 refine Run.drawn ?_
 refine d0 rfl ?_
 refine S.faddrP rfl rfl ?_
 refine d0 rfl ?_
 refine S.faddrP rfl rfl ?_
 refine d1 (x := (_, _)) rfl rfl ?_
 refine S.loadP rfl rfl rfl ?_
 obtain ⟨v1, h_v1, h⟩ := bnd_some h
 refine d1 (x := (_, _)) rfl rfl ?_
 refine S.call (And.intro rfl rfl) (r50 a0.1.1 _ h_v1) rfl ?_
 refine d1 (x := (_, _)) rfl rfl ?_
 refine S.loadP rfl rfl rfl ?_
 obtain ⟨v2, h_v2, h⟩ := bnd_some h
 refine d1 (x := (_, _)) rfl rfl ?_
 refine S.call (And.intro rfl rfl) (r37 a0 _ h_v2) rfl ?_
 obtain ⟨v3, h_v3, h⟩ := bnd_some h
 refine d1 (x := (_, _)) rfl rfl ?_
 refine S.call (And.intro rfl rfl) (r50 v2 _ h_v3) rfl ?_
 refine d0 rfl ?_
 refine S.max rfl rfl rfl ?_
 refine d0 rfl ?_
 refine S.move rfl ?_
 refine DrawR.nil ?_
 refine Run.ret ?_
 obtain rfl := some_inj h
 exact FinS.fin (End.tmp rfl rfl rfl)

theorem r10 (a0 : Int) (a1 : T_ratio_Rat) (a2 : T_ratio_Rat) (a3 : Int) (r : T_ratio_Rat × Int) (h : dyad_Two a0 a1 a2 a3 = some r) : Fn Try.prog 10 [.int .i32 a0, .agg (c_ratio_Rat a1), .agg (c_ratio_Rat a2), .int .i64 a3] (.tup [.agg (c_ratio_Rat r.1), .int .i64 r.2]) := by
 unfold dyad_Two at h
 refine Fn.ofS hm Try.func10 t10 (Nat.le_of_ble_eq_true rfl) ?_
 refine rs ?_
 refine ro ?_
 refine oc ?_
 refine S.box rfl rfl rfl rfl ?_
 refine oc ?_
 refine S.box rfl rfl rfl rfl ?_
 refine oc ?_
 refine S.alloc rfl ?_
 refine oc ?_
 refine S.move rfl ?_
 refine oz ?_
 refine rs ?_
 refine Run.block ?_
 refine rs ?_
 refine ro ?_
 refine oc ?_
 refine S.move rfl ?_
 obtain ⟨v1, h_v1, h⟩ := bnd_some h
 refine oc ?_
 refine S.call (And.intro rfl rfl) (r20 a0 _ h_v1) rfl ?_
 refine oc ?_
 refine S.move rfl ?_
 refine oz ?_
 rcases ite_some h with ⟨hc, h⟩ | ⟨hc, h⟩
 ·refine Run.setB (t := 12) rfl hc ?_
  refine Run.condT rfl ?_
  refine rs ?_
  refine ro ?_
  refine oc ?_
  refine S.move rfl ?_
  refine oc ?_
  refine S.loadP rfl rfl rfl ?_
  refine oc ?_
  refine S.loadP rfl rfl rfl ?_
  obtain ⟨v2, h_v2, h⟩ := bnd_some h
  refine oc ?_
  refine S.call (And.intro rfl rfl) (r11 a1 a2 _ h_v2) rfl ?_
  obtain ⟨v3, h_v3, h⟩ := bnd_some h
  refine oc ?_
  refine S.call (And.intro rfl rfl) (r6 a0 v2 _ h_v3) rfl ?_
  obtain ⟨v4, h_v4, h⟩ := bnd_some h
  refine oc ?_
  refine S.call (And.intro rfl rfl) (r21 v3 _ h_v4) rfl ?_
  refine oc ?_
  refine S.storeP rfl rfl rfl rfl rfl rfl (Nat.le_of_ble_eq_true rfl) rfl ?_
  refine oc ?_
  refine S.move rfl ?_
  refine oz ?_
  refine Run.cutJ (J := fun st => ∃ g8 : Nat, Is [(8, .ptr 8 g8 0), (9, .int .i64 0)] [(8, g8, some (.box [.sl (List.map c_u32 v4.1.1), .bool v4.1.2, .sl (List.map c_u32 v4.2)]))] st) ⟨_, ⟨rfl, rfl, trivial⟩, ⟨rfl, trivial⟩⟩ ?_
  rintro st ⟨g8, hI⟩
  have hI : Is _ _ _ := hI
  revert hI
  refine fun hI => hI.elim ?_
  intro e H
  refine Run.ret ?_
  obtain rfl := some_inj h
  exact FinS.fin (End.all (And.intro rfl rfl))
 ·refine Run.setB (t := 12) rfl hc ?_
  refine Run.condF rfl ?_
  refine rs ?_
  refine ro ?_
  refine oc ?_
  refine S.move rfl ?_
  obtain ⟨v5, h_v5, h⟩ := bnd_some h
  refine oc ?_
  refine S.call (And.intro rfl rfl) (r22 a0 _ h_v5) rfl ?_
  refine oc ?_
  refine S.move rfl ?_
  refine oz ?_
  refine Run.cutJ (J := fun st => ∃ g5 g6 g8 : Nat, Is [(0, .int .i32 a0), (3, .int .i64 a3), (5, .ptr 5 g5 0), (6, .ptr 6 g6 0), (8, .ptr 8 g8 0), (21, .bool v5)] [(5, g5, some (.box [.sl (List.map c_u32 a1.1.1), .bool a1.1.2, .sl (List.map c_u32 a1.2)])), (6, g6, some (.box [.sl (List.map c_u32 a2.1.1), .bool a2.1.2, .sl (List.map c_u32 a2.2)])), (8, g8, some (.box [.nil, .bool false, .nil]))] st) ⟨_, _, _, ⟨rfl, rfl, rfl, rfl, rfl, rfl, trivial⟩, ⟨rfl, rfl, rfl, trivial⟩⟩ ?_
  rintro st ⟨g5, g6, g8, hI⟩
  have hI : Is _ _ _ := hI
  revert hI
  refine fun hI => hI.elim ?_
  intro e H
  rcases ite_some h with ⟨hc, h⟩ | ⟨hc, h⟩
  ·refine Run.setB (t := 21) rfl hc ?_
   refine Run.condT rfl ?_
   refine rs ?_
   refine ro ?_
   refine oc ?_
   refine S.move rfl ?_
   refine oc ?_
   refine S.loadP rfl rfl rfl ?_
   refine oc ?_
   refine S.loadP rfl rfl rfl ?_
   obtain ⟨v6, h_v6, h⟩ := bnd_some h
   refine oc ?_
   refine S.call (And.intro rfl rfl) (r23 a0 a1 a2 _ h_v6) rfl ?_
   refine oc ?_
   refine S.extract rfl rfl ?_
   refine oc ?_
   refine S.extract rfl rfl ?_
   refine oc ?_
   refine S.storeP rfl rfl rfl rfl rfl rfl (Nat.le_of_ble_eq_true rfl) rfl ?_
   refine oc ?_
   refine S.move rfl ?_
   refine oz ?_
   refine Run.ret ?_
   obtain rfl := some_inj h
   exact FinS.fin (End.all (And.intro rfl rfl))
  ·refine Run.setB (t := 21) rfl hc ?_
   refine Run.condF rfl ?_
   refine rs ?_
   refine ro ?_
   refine oc ?_
   refine S.move rfl ?_
   obtain ⟨v7, h_v7, h⟩ := bnd_some h
   refine oc ?_
   refine S.call (And.intro rfl rfl) (r24 a0 _ h_v7) rfl ?_
   refine oc ?_
   refine S.not rfl rfl ?_
   refine oc ?_
   refine S.move rfl ?_
   refine oz ?_
   rcases ite_some h with ⟨hc, h⟩ | ⟨hc, h⟩
   ·refine Run.setB (t := 30) rfl hc ?_
    refine Run.condT rfl ?_
    refine rs ?_
    refine ro ?_
    refine oc ?_
    refine S.build (And.intro rfl rfl) rfl ?_
    refine oc ?_
    refine S.storeP rfl rfl rfl rfl rfl rfl (Nat.le_of_ble_eq_true rfl) rfl ?_
    refine oc ?_
    refine S.move rfl ?_
    refine oz ?_
    refine Run.ret ?_
    obtain rfl := some_inj h
    exact FinS.fin (End.all (And.intro rfl rfl))
   ·refine Run.setB (t := 30) rfl hc ?_
    refine Run.condF rfl ?_
    refine Run.skip ?_
    refine rs ?_
    refine ro ?_
    refine oc ?_
    refine S.move rfl ?_
    refine oc ?_
    refine S.loadP rfl rfl rfl ?_
    refine oc ?_
    refine S.loadP rfl rfl rfl ?_
    refine oc ?_
    refine S.move rfl ?_
    obtain ⟨v8, h_v8, h⟩ := bnd_some h
    refine oc ?_
    refine S.call (And.intro rfl rfl) (r25 a0 a1 a2 a3 _ h_v8) rfl ?_
    refine oc ?_
    refine S.move rfl ?_
    refine oc ?_
    refine S.extract rfl rfl ?_
    refine oc ?_
    refine S.extract rfl rfl ?_
    refine oc ?_
    refine S.alloc rfl ?_
    refine oc ?_
    refine S.storeP rfl rfl rfl rfl rfl rfl (Nat.le_of_ble_eq_true rfl) rfl ?_
    refine oc ?_
    refine S.move rfl ?_
    refine oz ?_
    refine Run.cutJ (J := fun st => ∃ g8 g10 : Nat, Is [(3, .int .i64 a3), (8, .ptr 8 g8 0), (10, .ptr 10 g10 0), (11, .int .i64 v8.2)] [(8, g8, some (.box [.nil, .bool false, .nil])), (10, g10, some (.box [.sl (List.map c_u32 v8.1.1.1), .bool v8.1.1.2, .sl (List.map c_u32 v8.1.2)]))] st) ⟨_, _, ⟨rfl, rfl, rfl, rfl, trivial⟩, ⟨rfl, rfl, trivial⟩⟩ ?_
    rintro st ⟨g8, g10, hI⟩
    have hI : Is _ _ _ := hI
    revert hI
    refine fun hI => hI.elim ?_
    intro e H
    refine rs ?_
    obtain ⟨x11, hx, h⟩ := bnd_some h
    refine Run.joinG (X := (XOne .normal (fun (x : Int) (st : St) => ∃ g8 g10 : Nat, Is [(8, .ptr 8 g8 0), (10, .ptr 10 g10 0), (11, .int .i64 x)] [(8, g8, some (.box [.nil, .bool false, .nil])), (10, g10, some (.box [.sl (List.map c_u32 v8.1.1.1), .bool v8.1.1.2, .sl (List.map c_u32 v8.1.2)]))] st))) (x := x11) ?_ ?_
    ·replace h := hx
     refine rs ?_
     refine ro ?_
     refine oc ?_
     refine S.move rfl ?_
     refine oc ?_
     refine S.eql rfl rfl rfl ?_
     refine oc ?_
     refine S.move rfl ?_
     obtain ⟨x10, hx, h⟩ := bnd_some h
     refine OpsR.splitAt 5 (J := fun st => ∃ g8 g10 : Nat, Is [(8, .ptr 8 g8 0), (10, .ptr 10 g10 0), (11, .int .i64 v8.2), (50, .bool x10)] [(8, g8, some (.box [.nil, .bool false, .nil])), (10, g10, some (.box [.sl (List.map c_u32 v8.1.1.1), .bool v8.1.1.2, .sl (List.map c_u32 v8.1.2)]))] st) ?_ ?_
     ·replace h := hx
      rcases ite_some h with ⟨hc, h⟩ | ⟨hc, h⟩
      ·refine OpsR.setB (t := 45) rfl hc ?_
       refine oc ?_
       refine S.on rfl ?_
       refine S.loadP rfl rfl rfl ?_
       obtain ⟨v9, h_v9, h⟩ := bnd_some h
       refine oc ?_
       refine S.on rfl ?_
       refine S.call (And.intro rfl rfl) (r26 v8.1 _ h_v9) rfl ?_
       refine oc ?_
       refine S.on rfl ?_
       refine S.move rfl ?_
       refine oc ?_
       refine S.on rfl ?_
       refine S.gtr rfl rfl rfl ?_
       refine oc ?_
       refine S.pick rfl rfl rfl rfl ?_
       obtain rfl := some_inj h
       refine oz ?_
       exact ⟨_, _, ⟨rfl, rfl, rfl, rfl, trivial⟩, ⟨rfl, rfl, trivial⟩⟩
      ·refine OpsR.setB (t := 45) rfl hc ?_
       refine oc ?_
       refine S.off rfl (by decide) ?_
       refine oc ?_
       refine S.off rfl (by decide) ?_
       refine oc ?_
       refine S.off rfl (by decide) ?_
       refine oc ?_
       refine S.off rfl (by decide) ?_
       refine oc ?_
       refine S.pick rfl rfl rfl rfl ?_
       obtain rfl := some_inj h
       refine oz ?_
       exact ⟨_, _, ⟨rfl, rfl, rfl, rfl, trivial⟩, ⟨rfl, rfl, trivial⟩⟩
     ·rintro st ⟨g8, g10, hI⟩
      have hI : Is _ _ _ := hI
      revert hI
      refine fun hI => hI.elim ?_
      intro e H
      refine oz ?_
      rcases ite_some h with ⟨hc, h⟩ | ⟨hc, h⟩
      ·refine Run.setB (t := 50) rfl hc ?_
       refine Run.condT rfl ?_
       refine ro ?_
       refine oc ?_
       refine S.move rfl ?_
       refine oz ?_
       obtain rfl := some_inj h
       refine JP.mk ?_
       exact Leaf.done (XOne.mk ⟨_, _, ⟨rfl, rfl, rfl, trivial⟩, ⟨rfl, rfl, trivial⟩⟩)
      ·refine Run.setB (t := 50) rfl hc ?_
       refine Run.condF rfl ?_
       refine Run.skip ?_
       obtain rfl := some_inj h
       refine JP.mk ?_
       exact Leaf.done (XOne.mk ⟨_, _, ⟨rfl, rfl, rfl, trivial⟩, ⟨rfl, rfl, trivial⟩⟩)
    ·intro e0 st0 hX
     rcases hX with ⟨hX⟩
     obtain ⟨g8, g10, hI⟩ := hX
     revert hI
     refine fun hI => hI.elim ?_
     intro e H
     refine rs ?_
     refine rs ?_
     refine ro ?_
     refine oc ?_
     refine S.move rfl ?_
     refine oc ?_
     refine S.neq rfl rfl rfl ?_
     refine oz ?_
     rcases ite_some h with ⟨hc, h⟩ | ⟨hc, h⟩
     ·refine Run.setB (t := 52) rfl hc ?_
      refine Run.condT rfl ?_
      refine rs ?_
      refine ro ?_
      refine oc ?_
      refine S.build (And.intro rfl rfl) rfl ?_
      refine oc ?_
      refine S.move rfl ?_
      refine oc ?_
      refine S.storeP rfl rfl rfl rfl rfl rfl (Nat.le_of_ble_eq_true rfl) rfl ?_
      refine oc ?_
      refine S.move rfl ?_
      refine oz ?_
      refine Run.ret ?_
      obtain rfl := some_inj h
      exact FinS.fin (End.all (And.intro rfl rfl))
     ·refine Run.setB (t := 52) rfl hc ?_
      refine Run.condF rfl ?_
      refine Run.skip ?_
      refine rs ?_
      refine ro ?_
      refine oc ?_
      refine S.loadP rfl rfl rfl ?_
      refine oc ?_
      refine S.storeP rfl rfl rfl rfl rfl rfl (Nat.le_of_ble_eq_true rfl) rfl ?_
      refine oc ?_
      refine S.move rfl ?_
      refine oz ?_
      refine Run.ret ?_
      obtain rfl := some_inj h
      exact FinS.fin (End.all (And.intro rfl rfl))

theorem r4 (a0 : T_api_Num) (a1 : T_api_Num) (r : Bool) (h : law13_DyadTurned a0 a1 = some r) : Fn Try.prog 4 [.agg (c_api_Num a0), .agg (c_api_Num a1)] (.bool r) := by
 unfold law13_DyadTurned at h
 refine Fn.ofS hm Try.func4 t4 (Nat.le_of_ble_eq_true rfl) ?_
 refine rs ?_
 refine ro ?_
 refine oc ?_
 refine S.box rfl rfl rfl rfl ?_
 refine oc ?_
 refine S.box rfl rfl rfl rfl ?_
 refine oc ?_
 refine S.move rfl ?_
 refine oz ?_
 refine rs ?_
 refine ro ?_
 refine oc ?_
 refine S.loadP rfl rfl rfl ?_
 obtain ⟨v1, h_v1, h⟩ := bnd_some h
 refine oc ?_
 refine S.call (And.intro rfl rfl) (r9 a0 _ h_v1) rfl ?_
 refine oc ?_
 refine S.move rfl ?_
 refine oc ?_
 refine S.extract rfl rfl ?_
 refine oc ?_
 refine S.extract rfl rfl ?_
 refine oc ?_
 refine S.alloc rfl ?_
 refine oc ?_
 refine S.storeP rfl rfl rfl rfl rfl rfl (Nat.le_of_ble_eq_true rfl) rfl ?_
 refine oc ?_
 refine S.move rfl ?_
 refine oz ?_
 refine Run.cutJ (J := fun st => ∃ g3 g5 : Nat, Is [(3, .ptr 3 g3 0), (5, .ptr 5 g5 0), (6, .bool v1.2)] [(3, g3, some (.box [.bool a1.1, .str (bs a1.2.1), .str (bs a1.2.2)])), (5, g5, some (.box [.sl (List.map c_u32 v1.1.1.1), .bool v1.1.1.2, .sl (List.map c_u32 v1.1.2)]))] st) ⟨_, _, ⟨rfl, rfl, rfl, trivial⟩, ⟨rfl, rfl, trivial⟩⟩ ?_
 rintro st ⟨g3, g5, hI⟩
 have hI : Is _ _ _ := hI
 revert hI
 refine fun hI => hI.elim ?_
 intro e H
 refine rs ?_
 refine ro ?_
 refine oc ?_
 refine S.loadP rfl rfl rfl ?_
 obtain ⟨v2, h_v2, h⟩ := bnd_some h
 refine oc ?_
 refine S.call (And.intro rfl rfl) (r9 a1 _ h_v2) rfl ?_
 refine oc ?_
 refine S.move rfl ?_
 refine oc ?_
 refine S.extract rfl rfl ?_
 refine oc ?_
 refine S.extract rfl rfl ?_
 refine oc ?_
 refine S.alloc rfl ?_
 refine oc ?_
 refine S.storeP rfl rfl rfl rfl rfl rfl (Nat.le_of_ble_eq_true rfl) rfl ?_
 refine oc ?_
 refine S.move rfl ?_
 refine oz ?_
 refine rs ?_
 refine rs ?_
 refine ro ?_
 refine oc ?_
 refine S.move rfl ?_
 refine oc ?_
 refine S.not rfl rfl ?_
 refine oc ?_
 refine S.move rfl ?_
 obtain ⟨x3, hx, h⟩ := lt_some h
 refine OpsR.splitAt 3 (J := fun st => ∃ g5 g7 : Nat, Is [(5, .ptr 5 g5 0), (7, .ptr 7 g7 0), (38, .bool x3)] [(5, g5, some (.box [.sl (List.map c_u32 v1.1.1.1), .bool v1.1.1.2, .sl (List.map c_u32 v1.1.2)])), (7, g7, some (.box [.sl (List.map c_u32 v2.1.1.1), .bool v2.1.1.2, .sl (List.map c_u32 v2.1.2)]))] st) ?_ ?_
 ·replace h := hx
  rcases itep h with ⟨hc, h⟩ | ⟨hc, h⟩
  ·refine OpsR.setB (t := 35) rfl hc ?_
   refine oc ?_
   refine S.off rfl (by decide) ?_
   refine oc ?_
   refine S.off rfl (by decide) ?_
   refine oc ?_
   refine S.pick rfl rfl rfl rfl ?_
   obtain rfl := some_inj h
   refine oz ?_
   exact ⟨_, _, ⟨rfl, rfl, rfl, trivial⟩, ⟨rfl, rfl, trivial⟩⟩
  ·refine OpsR.setB (t := 35) rfl hc ?_
   refine oc ?_
   refine S.on rfl ?_
   refine S.move rfl ?_
   refine oc ?_
   refine S.on rfl ?_
   refine S.not rfl rfl ?_
   refine oc ?_
   refine S.pick rfl rfl rfl rfl ?_
   obtain rfl := some_inj h
   refine oz ?_
   exact ⟨_, _, ⟨rfl, rfl, rfl, trivial⟩, ⟨rfl, rfl, trivial⟩⟩
 ·rintro st ⟨g5, g7, hI⟩
  have hI : Is _ _ _ := hI
  revert hI
  refine fun hI => hI.elim ?_
  intro e H
  refine oz ?_
  rcases ite_some h with ⟨hc, h⟩ | ⟨hc, h⟩
  ·refine Run.setB (t := 38) rfl hc ?_
   refine Run.condT rfl ?_
   refine rs ?_
   refine ro ?_
   obtain ⟨v4, h_v4, h⟩ := bnd_some h
   refine oc ?_
   refine S.call (And.intro rfl rfl) (r8 _ h_v4) rfl ?_
   refine oc ?_
   refine S.move rfl ?_
   refine oz ?_
   refine Run.ret ?_
   obtain rfl := some_inj h
   exact FinS.fin (End.tmp rfl rfl rfl)
  ·refine Run.setB (t := 38) rfl hc ?_
   refine Run.condF rfl ?_
   refine Run.skip ?_
   refine rs ?_
   refine ro ?_
   refine oc ?_
   refine S.buildSlM (c := c_i32) (l := ([43, 215, 8968, 8970, 61, 8800] : List Int)) (And.intro rfl rfl) rfl rfl rfl ?_
   refine oc ?_
   refine S.move rfl ?_
   refine oz ?_
   refine rs ?_
   refine rs ?_
   refine ro ?_
   refine oc ?_
   refine S.move rfl ?_
   refine oz ?_
   refine Run.block ?_
   obtain ⟨x13, hx, h⟩ := bnd_some h
   refine Run.iter (I := (fun (s : Int) (st : St) => ∃ g5 g7 g40 : Nat, Is [(5, .ptr 5 g5 0), (7, .ptr 7 g7 0), (9, .view 40 g40 1 (List.map c_i32 ([43, 215, 8968, 8970, 61, 8800] : List Int)).length), (10, .int .i64 s)] [(5, g5, some (.box [.sl (List.map c_u32 v1.1.1.1), .bool v1.1.1.2, .sl (List.map c_u32 v1.1.2)])), (7, g7, some (.box [.sl (List.map c_u32 v2.1.1.1), .bool v2.1.1.2, .sl (List.map c_u32 v2.1.2)])), (40, g40, some (.arr 21 1 (List.map c_i32 ([43, 215, 8968, 8970, 61, 8800] : List Int))))] st)) (X := (XSum (XOne (.exit 0) (fun (x : Unit) (st : St) => ∃ g5 g7 : Nat, Is [(5, .ptr 5 g5 0), (7, .ptr 7 g7 0)] [(5, g5, some (.box [.sl (List.map c_u32 v1.1.1.1), .bool v1.1.1.2, .sl (List.map c_u32 v1.1.2)])), (7, g7, some (.box [.sl (List.map c_u32 v2.1.1.1), .bool v2.1.1.2, .sl (List.map c_u32 v2.1.2)]))] st)) (XRet [.tmp 4] (fun (x : Bool) => .bool x)))) hx ?_ ?_ ?_
   ·exact ⟨_, _, _, ⟨rfl, rfl, rfl, rfl, trivial⟩, ⟨rfl, rfl, rfl, trivial⟩⟩
   ·rintro s5 st ⟨g5, g7, g40, hI⟩ o h
    have hI : Is _ _ _ := hI
    revert hI
    refine fun hI => hI.elim ?_
    intro e H
    refine rs ?_
    refine rs ?_
    refine ro ?_
    refine oc ?_
    refine S.move rfl ?_
    refine oc ?_
    refine S.move rfl ?_
    refine oc ?_
    refine S.lenVM rfl ?_
    refine oc ?_
    refine S.lss rfl rfl rfl ?_
    refine oz ?_
    rcases ite_some h with ⟨hc, h⟩ | ⟨hc, h⟩
    ·refine Run.setB (t := 44) rfl hc ?_
     refine Run.condT rfl ?_
     refine Run.skip ?_
     refine rs ?_
     refine Run.block ?_
     refine rs ?_
     refine Run.drawn ?_
     refine d0 rfl ?_
     refine S.move rfl ?_
     refine d0 rfl ?_
     refine S.move rfl ?_
     obtain ⟨v6, h_v6, h⟩ := bnd_some h
     refine d0 rfl ?_
     refine S.iaddrVM (c := c_i32) rfl rfl (get_in h_v6) ?_
     refine d1 (x := (_, _)) rfl rfl ?_
     refine S.loadEM rfl rfl (get_at h_v6) rfl ?_
     refine d1 (x := (_, _)) rfl rfl ?_
     refine S.loadP rfl rfl rfl ?_
     refine d1 (x := (_, _)) rfl rfl ?_
     refine S.loadP rfl rfl rfl ?_
     obtain ⟨v7, h_v7, h⟩ := bnd_some h
     refine d1 (x := (_, _)) rfl rfl ?_
     refine S.call (And.intro rfl rfl) (r10 v6 v1.1 v2.1 64 _ h_v7) rfl ?_
     refine d0 rfl ?_
     refine S.move rfl ?_
     refine d0 rfl ?_
     refine S.extract rfl rfl ?_
     refine d0 rfl ?_
     refine S.extract rfl rfl ?_
     refine d1 (x := (_, _)) rfl rfl ?_
     refine S.alloc rfl ?_
     refine d1 (x := (_, _)) rfl rfl ?_
     refine S.storeP rfl rfl rfl rfl rfl rfl (Nat.le_of_ble_eq_true rfl) rfl ?_
     refine d0 rfl ?_
     refine S.move rfl ?_
     refine DrawR.nil ?_
     refine Run.cutJ (J := fun st => ∃ g5 g7 g11 g40 : Nat, Is [(5, .ptr 5 g5 0), (7, .ptr 7 g7 0), (9, .view 40 g40 1 (List.map c_i32 ([43, 215, 8968, 8970, 61, 8800] : List Int)).length), (10, .int .i64 s5), (11, .ptr 11 g11 0), (12, .int .i64 v7.2)] [(5, g5, some (.box [.sl (List.map c_u32 v1.1.1.1), .bool v1.1.1.2, .sl (List.map c_u32 v1.1.2)])), (7, g7, some (.box [.sl (List.map c_u32 v2.1.1.1), .bool v2.1.1.2, .sl (List.map c_u32 v2.1.2)])), (11, g11, some (.box [.sl (List.map c_u32 v7.1.1.1), .bool v7.1.1.2, .sl (List.map c_u32 v7.1.2)])), (40, g40, some (.arr 21 1 (List.map c_i32 ([43, 215, 8968, 8970, 61, 8800] : List Int))))] st) ⟨_, _, _, _, ⟨rfl, rfl, rfl, rfl, rfl, rfl, trivial⟩, ⟨rfl, rfl, rfl, rfl, trivial⟩⟩ ?_
     rintro st ⟨g5, g7, g11, g40, hI⟩
     have hI : Is _ _ _ := hI
     revert hI
     refine fun hI => hI.elim ?_
     intro e H
     refine rs ?_
     refine Run.drawn ?_
     refine d0 rfl ?_
     refine S.move rfl ?_
     refine d0 rfl ?_
     refine S.move rfl ?_
     obtain ⟨v8, h_v8, h⟩ := bnd_some h
     refine d0 rfl ?_
     refine S.iaddrVM (c := c_i32) rfl rfl (get_in h_v8) ?_
     refine d1 (x := (_, _)) rfl rfl ?_
     refine S.loadEM rfl rfl (get_at h_v8) rfl ?_
     refine d1 (x := (_, _)) rfl rfl ?_
     refine S.loadP rfl rfl rfl ?_
     refine d1 (x := (_, _)) rfl rfl ?_
     refine S.loadP rfl rfl rfl ?_
     obtain ⟨v9, h_v9, h⟩ := bnd_some h
     refine d1 (x := (_, _)) rfl rfl ?_
     refine S.call (And.intro rfl rfl) (r10 v8 v2.1 v1.1 64 _ h_v9) rfl ?_
     refine d0 rfl ?_
     refine S.move rfl ?_
     refine d0 rfl ?_
     refine S.extract rfl rfl ?_
     refine d0 rfl ?_
     refine S.extract rfl rfl ?_
     refine d1 (x := (_, _)) rfl rfl ?_
     refine S.alloc rfl ?_
     refine d1 (x := (_, _)) rfl rfl ?_
     refine S.storeP rfl rfl rfl rfl rfl rfl (Nat.le_of_ble_eq_true rfl) rfl ?_
     refine d0 rfl ?_
     refine S.move rfl ?_
     refine DrawR.nil ?_
     refine Run.cutJ (J := fun st => ∃ g5 g7 g11 g13 g40 : Nat, Is [(5, .ptr 5 g5 0), (7, .ptr 7 g7 0), (9, .view 40 g40 1 (List.map c_i32 ([43, 215, 8968, 8970, 61, 8800] : List Int)).length), (10, .int .i64 s5), (11, .ptr 11 g11 0), (12, .int .i64 v7.2), (13, .ptr 13 g13 0), (14, .int .i64 v9.2)] [(5, g5, some (.box [.sl (List.map c_u32 v1.1.1.1), .bool v1.1.1.2, .sl (List.map c_u32 v1.1.2)])), (7, g7, some (.box [.sl (List.map c_u32 v2.1.1.1), .bool v2.1.1.2, .sl (List.map c_u32 v2.1.2)])), (11, g11, some (.box [.sl (List.map c_u32 v7.1.1.1), .bool v7.1.1.2, .sl (List.map c_u32 v7.1.2)])), (13, g13, some (.box [.sl (List.map c_u32 v9.1.1.1), .bool v9.1.1.2, .sl (List.map c_u32 v9.1.2)])), (40, g40, some (.arr 21 1 (List.map c_i32 ([43, 215, 8968, 8970, 61, 8800] : List Int))))] st) ⟨_, _, _, _, _, ⟨rfl, rfl, rfl, rfl, rfl, rfl, rfl, rfl, trivial⟩, ⟨rfl, rfl, rfl, rfl, rfl, trivial⟩⟩ ?_
     rintro st ⟨g5, g7, g11, g13, g40, hI⟩
     have hI : Is _ _ _ := hI
     revert hI
     refine fun hI => hI.elim ?_
     intro e H
     refine rs ?_
     refine ro ?_
     refine oc ?_
     refine S.move rfl ?_
     refine oc ?_
     refine S.neq rfl rfl rfl ?_
     refine oc ?_
     refine S.move rfl ?_
     obtain ⟨x10, hx, h⟩ := lt_some h
     refine OpsR.splitAt 3 (J := fun st => ∃ g5 g7 g11 g13 g40 : Nat, Is [(5, .ptr 5 g5 0), (7, .ptr 7 g7 0), (9, .view 40 g40 1 (List.map c_i32 ([43, 215, 8968, 8970, 61, 8800] : List Int)).length), (10, .int .i64 s5), (11, .ptr 11 g11 0), (13, .ptr 13 g13 0), (72, .bool x10)] [(5, g5, some (.box [.sl (List.map c_u32 v1.1.1.1), .bool v1.1.1.2, .sl (List.map c_u32 v1.1.2)])), (7, g7, some (.box [.sl (List.map c_u32 v2.1.1.1), .bool v2.1.1.2, .sl (List.map c_u32 v2.1.2)])), (11, g11, some (.box [.sl (List.map c_u32 v7.1.1.1), .bool v7.1.1.2, .sl (List.map c_u32 v7.1.2)])), (13, g13, some (.box [.sl (List.map c_u32 v9.1.1.1), .bool v9.1.1.2, .sl (List.map c_u32 v9.1.2)])), (40, g40, some (.arr 21 1 (List.map c_i32 ([43, 215, 8968, 8970, 61, 8800] : List Int))))] st) ?_ ?_
     ·replace h := hx
      rcases itep h with ⟨hc, h⟩ | ⟨hc, h⟩
      ·refine OpsR.setB (t := 69) rfl hc ?_
       refine oc ?_
       refine S.off rfl (by decide) ?_
       refine oc ?_
       refine S.off rfl (by decide) ?_
       refine oc ?_
       refine S.pick rfl rfl rfl rfl ?_
       obtain rfl := some_inj h
       refine oz ?_
       exact ⟨_, _, _, _, _, ⟨rfl, rfl, rfl, rfl, rfl, rfl, rfl, trivial⟩, ⟨rfl, rfl, rfl, rfl, rfl, trivial⟩⟩
      ·refine OpsR.setB (t := 69) rfl hc ?_
       refine oc ?_
       refine S.on rfl ?_
       refine S.move rfl ?_
       refine oc ?_
       refine S.on rfl ?_
       refine S.neq rfl rfl rfl ?_
       refine oc ?_
       refine S.pick rfl rfl rfl rfl ?_
       obtain rfl := some_inj h
       refine oz ?_
       exact ⟨_, _, _, _, _, ⟨rfl, rfl, rfl, rfl, rfl, rfl, rfl, trivial⟩, ⟨rfl, rfl, rfl, rfl, rfl, trivial⟩⟩
     ·rintro st ⟨g5, g7, g11, g13, g40, hI⟩
      have hI : Is _ _ _ := hI
      revert hI
      refine fun hI => hI.elim ?_
      intro e H
      refine oc ?_
      refine S.move rfl ?_
      obtain ⟨x12, hx, h⟩ := bnd_some h
      refine OpsR.splitAt 5 (J := fun st => ∃ g5 g7 g40 : Nat, Is [(5, .ptr 5 g5 0), (7, .ptr 7 g7 0), (9, .view 40 g40 1 (List.map c_i32 ([43, 215, 8968, 8970, 61, 8800] : List Int)).length), (10, .int .i64 s5), (78, .bool x12)] [(5, g5, some (.box [.sl (List.map c_u32 v1.1.1.1), .bool v1.1.1.2, .sl (List.map c_u32 v1.1.2)])), (7, g7, some (.box [.sl (List.map c_u32 v2.1.1.1), .bool v2.1.1.2, .sl (List.map c_u32 v2.1.2)])), (40, g40, some (.arr 21 1 (List.map c_i32 ([43, 215, 8968, 8970, 61, 8800] : List Int))))] st) ?_ ?_
      ·replace h := hx
       rcases ite_some h with ⟨hc, h⟩ | ⟨hc, h⟩
       ·refine OpsR.setB (t := 73) rfl hc ?_
        refine oc ?_
        refine S.off rfl (by decide) ?_
        refine oc ?_
        refine S.off rfl (by decide) ?_
        refine oc ?_
        refine S.off rfl (by decide) ?_
        refine oc ?_
        refine S.off rfl (by decide) ?_
        refine oc ?_
        refine S.pick rfl rfl rfl rfl ?_
        obtain rfl := some_inj h
        refine oz ?_
        exact ⟨_, _, _, ⟨rfl, rfl, rfl, rfl, rfl, trivial⟩, ⟨rfl, rfl, rfl, trivial⟩⟩
       ·refine OpsR.setB (t := 73) rfl hc ?_
        refine oc ?_
        refine S.on rfl ?_
        refine S.loadP rfl rfl rfl ?_
        refine oc ?_
        refine S.on rfl ?_
        refine S.loadP rfl rfl rfl ?_
        obtain ⟨v11, h_v11, h⟩ := bnd_some h
        refine oc ?_
        refine S.on rfl ?_
        refine S.call (And.intro rfl rfl) (r11 v7.1 v9.1 _ h_v11) rfl ?_
        refine oc ?_
        refine S.on rfl ?_
        refine S.neq rfl rfl rfl ?_
        refine oc ?_
        refine S.pick rfl rfl rfl rfl ?_
        obtain rfl := some_inj h
        refine oz ?_
        exact ⟨_, _, _, ⟨rfl, rfl, rfl, rfl, rfl, trivial⟩, ⟨rfl, rfl, rfl, trivial⟩⟩
      ·rintro st ⟨g5, g7, g40, hI⟩
       have hI : Is _ _ _ := hI
       revert hI
       refine fun hI => hI.elim ?_
       intro e H
       refine oz ?_
       rcases ite_some h with ⟨hc, h⟩ | ⟨hc, h⟩
       ·refine Run.setB (t := 78) rfl hc ?_
        refine Run.condT rfl ?_
        refine rs ?_
        refine ro ?_
        refine oc ?_
        refine S.move rfl ?_
        refine oz ?_
        refine Run.ret ?_
        obtain rfl := some_inj h
        exact LoopPost.out nofun (Leaf.done (XSum.r (XRet.mk (FinS.fin (End.tmp rfl rfl rfl)))))
       ·refine Run.setB (t := 78) rfl hc ?_
        refine Run.condF rfl ?_
        refine Run.skip ?_
        refine ro ?_
        refine oc ?_
        refine S.move rfl ?_
        refine oc ?_
        refine S.add rfl rfl rfl ?_
        refine oc ?_
        refine S.move rfl ?_
        refine oz ?_
        obtain rfl := some_inj h
        refine LoopPost.next ?_
        exact Leaf.done ⟨_, _, _, ⟨rfl, rfl, rfl, rfl, trivial⟩, ⟨rfl, rfl, rfl, trivial⟩⟩
    ·refine Run.setB (t := 44) rfl hc ?_
     refine Run.condF rfl ?_
     refine Run.exit ?_
     obtain rfl := some_inj h
     refine LoopPost.out nofun ?_
     exact Leaf.done (XSum.l (XOne.mk ⟨_, _, ⟨rfl, rfl, trivial⟩, ⟨rfl, rfl, trivial⟩⟩))
   ·intro e0 st0 hX
    revert h hX
    rcases x13 with x14 | x15
    ·intro h hX
     replace h := sm_l h
     replace hX := XSum.invl hX
     rcases hX with ⟨hX⟩
     obtain ⟨g5, g7, hI⟩ := hX
     revert hI
     refine fun hI => hI.elim ?_
     intro e H
     refine rs ?_
     refine ro ?_
     refine oc ?_
     refine S.loadP rfl rfl rfl ?_
     refine oc ?_
     refine S.loadP rfl rfl rfl ?_
     obtain ⟨v16, h_v16, h⟩ := bnd_some h
     refine oc ?_
     refine S.call (And.intro rfl rfl) (r10 60 v1.1 v2.1 64 _ h_v16) rfl ?_
     refine oc ?_
     refine S.move rfl ?_
     refine oc ?_
     refine S.extract rfl rfl ?_
     refine oc ?_
     refine S.extract rfl rfl ?_
     refine oc ?_
     refine S.alloc rfl ?_
     refine oc ?_
     refine S.storeP rfl rfl rfl rfl rfl rfl (Nat.le_of_ble_eq_true rfl) rfl ?_
     refine oc ?_
     refine S.move rfl ?_
     refine oz ?_
     refine rs ?_
     refine ro ?_
     refine oc ?_
     refine S.loadP rfl rfl rfl ?_
     refine oc ?_
     refine S.loadP rfl rfl rfl ?_
     obtain ⟨v17, h_v17, h⟩ := bnd_some h
     refine oc ?_
     refine S.call (And.intro rfl rfl) (r10 62 v2.1 v1.1 64 _ h_v17) rfl ?_
     refine oc ?_
     refine S.move rfl ?_
     refine oc ?_
     refine S.extract rfl rfl ?_
     refine oc ?_
     refine S.extract rfl rfl ?_
     refine oc ?_
     refine S.alloc rfl ?_
     refine oc ?_
     refine S.storeP rfl rfl rfl rfl rfl rfl (Nat.le_of_ble_eq_true rfl) rfl ?_
     refine oc ?_
     refine S.move rfl ?_
     refine oz ?_
     refine Run.cutJ (J := fun st => ∃ g5 g7 g15 g17 : Nat, Is [(5, .ptr 5 g5 0), (7, .ptr 7 g7 0), (15, .ptr 15 g15 0), (17, .ptr 17 g17 0)] [(5, g5, some (.box [.sl (List.map c_u32 v1.1.1.1), .bool v1.1.1.2, .sl (List.map c_u32 v1.1.2)])), (7, g7, some (.box [.sl (List.map c_u32 v2.1.1.1), .bool v2.1.1.2, .sl (List.map c_u32 v2.1.2)])), (15, g15, some (.box [.sl (List.map c_u32 v16.1.1.1), .bool v16.1.1.2, .sl (List.map c_u32 v16.1.2)])), (17, g17, some (.box [.sl (List.map c_u32 v17.1.1.1), .bool v17.1.1.2, .sl (List.map c_u32 v17.1.2)]))] st) ⟨_, _, _, _, ⟨rfl, rfl, rfl, rfl, trivial⟩, ⟨rfl, rfl, rfl, rfl, trivial⟩⟩ ?_
     rintro st ⟨g5, g7, g15, g17, hI⟩
     have hI : Is _ _ _ := hI
     revert hI
     refine fun hI => hI.elim ?_
     intro e H
     refine rs ?_
     refine ro ?_
     refine oc ?_
     refine S.loadP rfl rfl rfl ?_
     refine oc ?_
     refine S.loadP rfl rfl rfl ?_
     obtain ⟨v18, h_v18, h⟩ := bnd_some h
     refine oc ?_
     refine S.call (And.intro rfl rfl) (r10 61 v1.1 v2.1 64 _ h_v18) rfl ?_
     refine oc ?_
     refine S.move rfl ?_
     refine oc ?_
     refine S.extract rfl rfl ?_
     refine oc ?_
     refine S.extract rfl rfl ?_
     refine oc ?_
     refine S.alloc rfl ?_
     refine oc ?_
     refine S.storeP rfl rfl rfl rfl rfl rfl (Nat.le_of_ble_eq_true rfl) rfl ?_
     refine oc ?_
     refine S.move rfl ?_
     refine oz ?_
     refine rs ?_
     refine ro ?_
     refine oc ?_
     refine S.loadP rfl rfl rfl ?_
     refine oc ?_
     refine S.loadP rfl rfl rfl ?_
     obtain ⟨v19, h_v19, h⟩ := bnd_some h
     refine oc ?_
     refine S.call (And.intro rfl rfl) (r10 62 v1.1 v2.1 64 _ h_v19) rfl ?_
     refine oc ?_
     refine S.move rfl ?_
     refine oc ?_
     refine S.extract rfl rfl ?_
     refine oc ?_
     refine S.extract rfl rfl ?_
     refine oc ?_
     refine S.alloc rfl ?_
     refine oc ?_
     refine S.storeP rfl rfl rfl rfl rfl rfl (Nat.le_of_ble_eq_true rfl) rfl ?_
     refine oc ?_
     refine S.move rfl ?_
     refine oz ?_
     refine Run.cutJ (J := fun st => ∃ g15 g17 g19 g21 : Nat, Is [(15, .ptr 15 g15 0), (17, .ptr 17 g17 0), (19, .ptr 19 g19 0), (21, .ptr 21 g21 0)] [(15, g15, some (.box [.sl (List.map c_u32 v16.1.1.1), .bool v16.1.1.2, .sl (List.map c_u32 v16.1.2)])), (17, g17, some (.box [.sl (List.map c_u32 v17.1.1.1), .bool v17.1.1.2, .sl (List.map c_u32 v17.1.2)])), (19, g19, some (.box [.sl (List.map c_u32 v18.1.1.1), .bool v18.1.1.2, .sl (List.map c_u32 v18.1.2)])), (21, g21, some (.box [.sl (List.map c_u32 v19.1.1.1), .bool v19.1.1.2, .sl (List.map c_u32 v19.1.2)]))] st) ⟨_, _, _, _, ⟨rfl, rfl, rfl, rfl, trivial⟩, ⟨rfl, rfl, rfl, rfl, trivial⟩⟩ ?_
     rintro st ⟨g15, g17, g19, g21, hI⟩
     have hI : Is _ _ _ := hI
     revert hI
     refine fun hI => hI.elim ?_
     intro e H
     refine rs ?_
     refine ro ?_
     refine oc ?_
     refine S.loadP rfl rfl rfl ?_
     refine oc ?_
     refine S.loadP rfl rfl rfl ?_
     obtain ⟨v20, h_v20, h⟩ := bnd_some h
     refine oc ?_
     refine S.call (And.intro rfl rfl) (r11 v16.1 v17.1 _ h_v20) rfl ?_
     refine oc ?_
     refine S.eql rfl rfl rfl ?_
     refine oc ?_
     refine S.move rfl ?_
     obtain ⟨x24, hx, h⟩ := bnd_some h
     refine OpsR.splitAt 9 (J := fun st => Is [(116, .bool x24)] [] st) ?_ ?_
     ·replace h := hx
      rcases ite_some h with ⟨hc, h⟩ | ⟨hc, h⟩
      ·refine OpsR.setB (t := 107) rfl hc ?_
       refine oc ?_
       refine S.on rfl ?_
       refine S.loadP rfl rfl rfl ?_
       refine oc ?_
       refine S.on rfl ?_
       refine S.loadP rfl rfl rfl ?_
       refine oc ?_
       refine S.on rfl ?_
       refine S.loadP rfl rfl rfl ?_
       refine oc ?_
       refine S.on rfl ?_
       refine S.buildSlM (c := c_ratio_Rat) (l := ([v18.1, v19.1] : List T_ratio_Rat)) (And.intro rfl rfl) rfl rfl rfl ?_
       obtain ⟨v21, h_v21, h⟩ := bnd_some h
       refine oc ?_
       refine S.on rfl ?_
       refine S.call (And.intro rfl (And.intro rfl (And.intro rfl (And.intro rfl rfl)))) (r12 v16.1 ([v18.1, v19.1] : List T_ratio_Rat) _ h_v21) rfl ?_
       obtain ⟨v22, h_v22, h⟩ := bnd_some h
       refine oc ?_
       refine S.on rfl ?_
       refine S.call (And.intro rfl rfl) (r13 1 _ h_v22) rfl ?_
       obtain ⟨v23, h_v23, h⟩ := bnd_some h
       refine oc ?_
       refine S.on rfl ?_
       refine S.call (And.intro rfl rfl) (r11 v21 v22 _ h_v23) rfl ?_
       refine oc ?_
       refine S.on rfl ?_
       refine S.eql rfl rfl rfl ?_
       refine oc ?_
       refine S.pick rfl rfl rfl rfl ?_
       obtain rfl := some_inj h
       refine oz ?_
       exact ⟨⟨rfl, trivial⟩, trivial⟩
      ·refine OpsR.setB (t := 107) rfl hc ?_
       refine oc ?_
       refine S.off rfl (by decide) ?_
       refine oc ?_
       refine S.off rfl (by decide) ?_
       refine oc ?_
       refine S.off rfl (by decide) ?_
       refine oc ?_
       refine S.off rfl (by decide) ?_
       refine oc ?_
       refine S.off rfl (by decide) ?_
       refine oc ?_
       refine S.off rfl (by decide) ?_
       refine oc ?_
       refine S.off rfl (by decide) ?_
       refine oc ?_
       refine S.off rfl (by decide) ?_
       refine oc ?_
       refine S.pick rfl rfl rfl rfl ?_
       obtain rfl := some_inj h
       refine oz ?_
       exact ⟨⟨rfl, trivial⟩, trivial⟩
     ·rintro st hI
      have hI : Is _ _ _ := hI
      revert hI
      refine fun hI => hI.elim ?_
      intro e H
      refine oc ?_
      refine S.move rfl ?_
      obtain ⟨x26, hx, h⟩ := bnd_some h
      refine OpsR.splitAt 2 (J := fun st => Is [(119, .bool x26)] [] st) ?_ ?_
      ·replace h := hx
       rcases ite_some h with ⟨hc, h⟩ | ⟨hc, h⟩
       ·refine OpsR.setB (t := 117) rfl hc ?_
        obtain ⟨v25, h_v25, h⟩ := bnd_some h
        refine oc ?_
        refine S.on rfl ?_
        refine S.call (And.intro rfl rfl) (r8 _ h_v25) rfl ?_
        refine oc ?_
        refine S.pick rfl rfl rfl rfl ?_
        obtain rfl := some_inj h
        refine oz ?_
        exact ⟨⟨rfl, trivial⟩, trivial⟩
       ·refine OpsR.setB (t := 117) rfl hc ?_
        refine oc ?_
        refine S.off rfl (by decide) ?_
        refine oc ?_
        refine S.pick rfl rfl rfl rfl ?_
        obtain rfl := some_inj h
        refine oz ?_
        exact ⟨⟨rfl, trivial⟩, trivial⟩
      ·rintro st hI
       have hI : Is _ _ _ := hI
       revert hI
       refine fun hI => hI.elim ?_
       intro e H
       refine oc ?_
       refine S.move rfl ?_
       refine oz ?_
       refine Run.ret ?_
       obtain rfl := some_inj h
       exact FinS.fin (End.tmp rfl rfl rfl)
    ·intro h hX
     replace h := sm_r h
     replace hX := XSum.invr hX
     rcases hX with ⟨hf⟩
     obtain rfl := some_inj h
     exact hf

end Go.Ev.T
