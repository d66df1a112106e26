/- The program's functions, walked: each hands back what its plain function says. Printed by a program of mine. -/
import Derived.Test.YtfklgafihefpeaaCode
import Derived.Test.YtfklgafihefpeaaSh
set_option linter.unusedVariables false
set_option linter.unusedSimpArgs false

set_option maxHeartbeats 1000000
namespace Go.Ev.T
open Go.Proofs Go.Sh
abbrev d0 := @DrawR.cons0
abbrev d1 := @DrawR.cons1
abbrev d2 := @DrawR.cons2
abbrev d3 := @DrawR.cons3
abbrev d4 := @DrawR.cons
abbrev oc := @OpsR.cons
abbrev oz := @OpsR.nil
abbrev rs := @Run.seq
abbrev ro := @Run.ops

theorem r8 (r : Bool) (h : law13_awake = some r) : Fn Try.prog 8 [] (.bool r) := by
  obtain rfl := some_inj h
  exact callC_sound hm (G0 := fun _ _ => none) (fun _ _ _ h => by cases h) tab_ok 1000 8 _ _ (by kernel_rfl)

abbrev c_api_Num (x : T_api_Num) : List AV := [.bool x.1, .str (bs x.2.1), .str (bs x.2.2)]
abbrev c_L_u32 (x : List Int) : List AV := [.sl (List.map c_u32 x)]
abbrev c_nat_Nat (x : T_nat_Nat) : List AV := [.sl (List.map c_u32 x)]
abbrev c_whole_Int (x : T_whole_Int) : List AV := [.sl (List.map c_u32 x.1), .bool x.2]
abbrev c_ratio_Rat (x : T_ratio_Rat) : List AV := [.sl (List.map c_u32 x.1.1), .bool x.1.2, .sl (List.map c_u32 x.2)]

theorem r39 (a0 : Str) (r : Bool) (h : ref01_Right a0 = some r) : Fn Try.prog 39 [.str (bs a0)] (.bool r) := by
 unfold ref01_Right at h
 refine Fn.ofS hm Try.func39 t39 (Nat.le_of_ble_eq_true rfl) ?_
 refine rs ?_
 refine ro ?_
 refine oc ?_
 refine S.move rfl ?_
 refine oz ?_
 refine rs ?_
 refine rs ?_
 refine ro ?_
 refine oc ?_
 refine S.move rfl ?_
 refine oz ?_
 refine Run.block ?_
 obtain ⟨x6, hx, h⟩ := bnd_some h
 refine Run.iter (I := (fun (s : Int) (st : St) => Is [(0, .str (bs a0)), (3, .int .i64 s)] [] st)) (X := (XSum (XOne (.exit 0) (fun (x : Unit) (st : St) => Is [(0, .str (bs a0))] [] st)) (XRet [.tmp 2] (fun (x : Bool) => .bool x)))) hx ?_ ?_ ?_
 ·exact ⟨⟨rfl, rfl, trivial⟩, trivial⟩
 ·rintro s1 st hI o h
  have hI : Is _ _ _ := hI
  revert hI
  refine fun hI => hI.elim ?_
  intro e H
  refine rs ?_
  refine rs ?_
  refine ro ?_
  refine oc ?_
  refine S.move rfl ?_
  refine oc ?_
  refine S.move rfl ?_
  refine oc ?_
  refine S.lenSM rfl ?_
  refine oc ?_
  refine S.lss rfl rfl rfl ?_
  refine oc ?_
  refine S.move rfl ?_
  obtain ⟨x2, hx, h⟩ := lt_some h
  refine OpsR.splitAt 3 (J := fun st => Is [(0, .str (bs a0)), (3, .int .i64 s1), (11, .bool x2)] [] st) ?_ ?_
  ·replace h := hx
   rcases itep h with ⟨hc, h⟩ | ⟨hc, h⟩
   ·refine OpsR.setB (t := 8) rfl hc ?_
    refine oc ?_
    refine S.on rfl ?_
    refine S.move rfl ?_
    refine oc ?_
    refine S.on rfl ?_
    refine S.leq rfl rfl rfl ?_
    refine oc ?_
    refine S.pick rfl rfl rfl rfl ?_
    obtain rfl := some_inj h
    refine oz ?_
    exact ⟨⟨rfl, rfl, rfl, trivial⟩, trivial⟩
   ·refine OpsR.setB (t := 8) rfl hc ?_
    refine oc ?_
    refine S.off rfl (by decide) ?_
    refine oc ?_
    refine S.off rfl (by decide) ?_
    refine oc ?_
    refine S.pick rfl rfl rfl rfl ?_
    obtain rfl := some_inj h
    refine oz ?_
    exact ⟨⟨rfl, rfl, rfl, trivial⟩, trivial⟩
  ·rintro st hI
   have hI : Is _ _ _ := hI
   revert hI
   refine fun hI => hI.elim ?_
   intro e H
   refine oz ?_
   rcases ite_some h with ⟨hc, h⟩ | ⟨hc, h⟩
   ·refine Run.setB (t := 11) rfl hc ?_
    refine Run.condT rfl ?_
    refine Run.skip ?_
    refine rs ?_
    refine Run.block ?_
    refine rs ?_
    refine ro ?_
    refine oc ?_
    refine S.move rfl ?_
    refine oc ?_
    refine S.move rfl ?_
    obtain ⟨v3, h_v3, h⟩ := bnd_some h
    refine oc ?_
    refine S.indexM rfl rfl h_v3 ?_
    refine oc ?_
    refine S.lss rfl rfl rfl ?_
    refine oc ?_
    refine S.move rfl ?_
    obtain ⟨x5, hx, h⟩ := bnd_some h
    refine OpsR.splitAt 5 (J := fun st => Is [(0, .str (bs a0)), (3, .int .i64 s1), (23, .bool x5)] [] st) ?_ ?_
    ·replace h := hx
     rcases ite_some h with ⟨hc, h⟩ | ⟨hc, h⟩
     ·refine OpsR.setB (t := 18) rfl hc ?_
      refine oc ?_
      refine S.off rfl (by decide) ?_
      refine oc ?_
      refine S.off rfl (by decide) ?_
      refine oc ?_
      refine S.off rfl (by decide) ?_
      refine oc ?_
      refine S.off rfl (by decide) ?_
      refine oc ?_
      refine S.pick rfl rfl rfl rfl ?_
      obtain rfl := some_inj h
      refine oz ?_
      exact ⟨⟨rfl, rfl, rfl, trivial⟩, trivial⟩
     ·refine OpsR.setB (t := 18) rfl hc ?_
      refine oc ?_
      refine S.on rfl ?_
      refine S.move rfl ?_
      refine oc ?_
      refine S.on rfl ?_
      refine S.move rfl ?_
      obtain ⟨v4, h_v4, h⟩ := bnd_some h
      refine oc ?_
      refine S.on rfl ?_
      refine S.indexM rfl rfl h_v4 ?_
      refine oc ?_
      refine S.on rfl ?_
      refine S.gtr rfl rfl rfl ?_
      refine oc ?_
      refine S.pick rfl rfl rfl rfl ?_
      obtain rfl := some_inj h
      refine oz ?_
      exact ⟨⟨rfl, rfl, rfl, trivial⟩, trivial⟩
    ·rintro st hI
     have hI : Is _ _ _ := hI
     revert hI
     refine fun hI => hI.elim ?_
     intro e H
     refine oz ?_
     rcases ite_some h with ⟨hc, h⟩ | ⟨hc, h⟩
     ·refine Run.setB (t := 23) rfl hc ?_
      refine Run.condT rfl ?_
      refine rs ?_
      refine ro ?_
      refine oc ?_
      refine S.move rfl ?_
      refine oz ?_
      refine Run.ret ?_
      obtain rfl := some_inj h
      exact LoopPost.out nofun (Leaf.done (XSum.r (XRet.mk (FinS.fin (End.tmp rfl rfl rfl)))))
     ·refine Run.setB (t := 23) rfl hc ?_
      refine Run.condF rfl ?_
      refine Run.skip ?_
      refine ro ?_
      refine oc ?_
      refine S.move rfl ?_
      refine oc ?_
      refine S.add rfl rfl rfl ?_
      refine oc ?_
      refine S.move rfl ?_
      refine oz ?_
      obtain rfl := some_inj h
      refine LoopPost.next ?_
      exact Leaf.done ⟨⟨rfl, rfl, trivial⟩, trivial⟩
   ·refine Run.setB (t := 11) rfl hc ?_
    refine Run.condF rfl ?_
    refine Run.exit ?_
    obtain rfl := some_inj h
    refine LoopPost.out nofun ?_
    exact Leaf.done (XSum.l (XOne.mk ⟨⟨rfl, trivial⟩, trivial⟩))
 ·intro e0 st0 hX
  revert h hX
  rcases x6 with x7 | x8
  ·intro h hX
   replace h := sm_l h
   replace hX := XSum.invl hX
   rcases hX with ⟨hX⟩
   have hI : Is _ _ _ := hX
   revert hI
   refine fun hI => hI.elim ?_
   intro e H
   refine rs ?_
   refine ro ?_
   refine oc ?_
   refine S.move rfl ?_
   refine oc ?_
   refine S.lenSM rfl ?_
   refine oc ?_
   refine S.geq rfl rfl rfl ?_
   refine oc ?_
   refine S.move rfl ?_
   obtain ⟨x9, hx, h⟩ := lt_some h
   refine OpsR.splitAt 4 (J := fun st => Is [(31, .bool x9)] [] st) ?_ ?_
   ·replace h := hx
    rcases itep h with ⟨hc, h⟩ | ⟨hc, h⟩
    ·refine OpsR.setB (t := 27) rfl hc ?_
     refine oc ?_
     refine S.on rfl ?_
     refine S.move rfl ?_
     refine oc ?_
     refine S.on rfl ?_
     refine S.lenSM rfl ?_
     refine oc ?_
     refine S.on rfl ?_
     refine S.leq rfl rfl rfl ?_
     refine oc ?_
     refine S.pick rfl rfl rfl rfl ?_
     obtain rfl := some_inj h
     refine oz ?_
     exact ⟨⟨rfl, trivial⟩, trivial⟩
    ·refine OpsR.setB (t := 27) rfl hc ?_
     refine oc ?_
     refine S.off rfl (by decide) ?_
     refine oc ?_
     refine S.off rfl (by decide) ?_
     refine oc ?_
     refine S.off rfl (by decide) ?_
     refine oc ?_
     refine S.pick rfl rfl rfl rfl ?_
     obtain rfl := some_inj h
     refine oz ?_
     exact ⟨⟨rfl, trivial⟩, trivial⟩
   ·rintro st hI
    have hI : Is _ _ _ := hI
    revert hI
    refine fun hI => hI.elim ?_
    intro e H
    refine oc ?_
    refine S.move rfl ?_
    refine oz ?_
    refine Run.ret ?_
    obtain rfl := some_inj h
    exact FinS.fin (End.tmp rfl rfl rfl)
  ·intro h hX
   replace h := sm_r h
   replace hX := XSum.invr hX
   rcases hX with ⟨hf⟩
   obtain rfl := some_inj h
   exact hf

theorem r40 (a0 : Str) (r : Str) (h : ref01_Trim a0 = some r) : Fn Try.prog 40 [.str (bs a0)] (.str (bs r)) := by
 unfold ref01_Trim at h
 refine Fn.ofS hm Try.func40 t40 (Nat.le_of_ble_eq_true rfl) ?_
 refine rs ?_
 refine ro ?_
 refine oc ?_
 refine S.move rfl ?_
 refine oz ?_
 refine rs ?_
 refine Run.block ?_
 obtain ⟨x5, hx, h⟩ := bnd_some h
 refine Run.iter (I := (fun (s : Str) (st : St) => Is [(0, .str (bs s))] [] st)) (X := (XOne (.exit 0) (fun (x : Str) (st : St) => Is [(0, .str (bs x))] [] st))) hx ?_ ?_ ?_
 ·exact ⟨⟨rfl, trivial⟩, trivial⟩
 ·rintro s1 st hI o h
  have hI : Is _ _ _ := hI
  revert hI
  refine fun hI => hI.elim ?_
  intro e H
  refine rs ?_
  refine rs ?_
  refine ro ?_
  refine oc ?_
  refine S.move rfl ?_
  refine oc ?_
  refine S.lenSM rfl ?_
  refine oc ?_
  refine S.gtr rfl rfl rfl ?_
  refine oc ?_
  refine S.move rfl ?_
  obtain ⟨x3, hx, h⟩ := bnd_some h
  refine OpsR.splitAt 4 (J := fun st => Is [(0, .str (bs s1)), (10, .bool x3)] [] st) ?_ ?_
  ·replace h := hx
   rcases ite_some h with ⟨hc, h⟩ | ⟨hc, h⟩
   ·refine OpsR.setB (t := 6) rfl hc ?_
    refine oc ?_
    refine S.on rfl ?_
    refine S.move rfl ?_
    obtain ⟨v2, h_v2, h⟩ := bnd_some h
    refine oc ?_
    refine S.on rfl ?_
    refine S.indexM rfl rfl h_v2 ?_
    refine oc ?_
    refine S.on rfl ?_
    refine S.eql rfl rfl rfl ?_
    refine oc ?_
    refine S.pick rfl rfl rfl rfl ?_
    obtain rfl := some_inj h
    refine oz ?_
    exact ⟨⟨rfl, rfl, trivial⟩, trivial⟩
   ·refine OpsR.setB (t := 6) rfl hc ?_
    refine oc ?_
    refine S.off rfl (by decide) ?_
    refine oc ?_
    refine S.off rfl (by decide) ?_
    refine oc ?_
    refine S.off rfl (by decide) ?_
    refine oc ?_
    refine S.pick rfl rfl rfl rfl ?_
    obtain rfl := some_inj h
    refine oz ?_
    exact ⟨⟨rfl, rfl, trivial⟩, trivial⟩
  ·rintro st hI
   have hI : Is _ _ _ := hI
   revert hI
   refine fun hI => hI.elim ?_
   intro e H
   refine oz ?_
   rcases ite_some h with ⟨hc, h⟩ | ⟨hc, h⟩
   ·refine Run.setB (t := 10) rfl hc ?_
    refine Run.condT rfl ?_
    refine Run.skip ?_
    refine Run.block ?_
    refine ro ?_
    refine oc ?_
    refine S.move rfl ?_
    obtain ⟨v4, h_v4, h⟩ := bnd_some h
    refine oc ?_
    refine S.sliceSTF rfl rfl h_v4 ?_
    refine oc ?_
    refine S.move rfl ?_
    refine oz ?_
    obtain rfl := some_inj h
    refine LoopPost.next ?_
    exact Leaf.done ⟨⟨rfl, trivial⟩, trivial⟩
   ·refine Run.setB (t := 10) rfl hc ?_
    refine Run.condF rfl ?_
    refine Run.exit ?_
    obtain rfl := some_inj h
    refine LoopPost.out nofun ?_
    exact Leaf.done (XOne.mk ⟨⟨rfl, trivial⟩, trivial⟩)
 ·intro e0 st0 hX
  rcases hX with ⟨hX⟩
  have hI : Is _ _ _ := hX
  revert hI
  refine fun hI => hI.elim ?_
  intro e H
  refine rs ?_
  refine ro ?_
  refine oc ?_
  refine S.move rfl ?_
  refine oc ?_
  refine S.move rfl ?_
  refine oz ?_
  refine Run.ret ?_
  obtain rfl := some_inj h
  exact FinS.fin (End.tmp rfl rfl rfl)

theorem r77 (a0 : Str) (a1 : Str) (r : Int) (h : ref01_Cmp a0 a1 = some r) : Fn Try.prog 77 [.str (bs a0), .str (bs a1)] (.int .i64 r) := by
 unfold ref01_Cmp at h
 refine Fn.ofS hm Try.func77 t77 (Nat.le_of_ble_eq_true rfl) ?_
 refine rs ?_
 refine ro ?_
 refine oc ?_
 refine S.move rfl ?_
 refine oz ?_
 refine rs ?_
 refine rs ?_
 refine ro ?_
 refine oc ?_
 refine S.move rfl ?_
 refine oc ?_
 refine S.lenSM rfl ?_
 refine oc ?_
 refine S.move rfl ?_
 refine oc ?_
 refine S.lenSM rfl ?_
 refine oc ?_
 refine S.neq rfl rfl rfl ?_
 refine oz ?_
 rcases ite_some h with ⟨hc, h⟩ | ⟨hc, h⟩
 ·refine Run.setB (t := 9) rfl hc ?_
  refine Run.condT rfl ?_
  refine rs ?_
  refine rs ?_
  refine ro ?_
  refine oc ?_
  refine S.move rfl ?_
  refine oc ?_
  refine S.lenSM rfl ?_
  refine oc ?_
  refine S.move rfl ?_
  refine oc ?_
  refine S.lenSM rfl ?_
  refine oc ?_
  refine S.lss rfl rfl rfl ?_
  refine oz ?_
  rcases ite_some h with ⟨hc, h⟩ | ⟨hc, h⟩
  ·refine Run.setB (t := 14) rfl hc ?_
   refine Run.condT rfl ?_
   refine rs ?_
   refine ro ?_
   refine oc ?_
   refine S.move rfl ?_
   refine oz ?_
   refine Run.cutJ (J := fun st => Is [(4, .int .i64 (-1))] [] st) ⟨⟨rfl, trivial⟩, trivial⟩ ?_
   rintro st hI
   have hI : Is _ _ _ := hI
   revert hI
   refine fun hI => hI.elim ?_
   intro e H
   refine Run.ret ?_
   obtain rfl := some_inj h
   exact FinS.fin (End.tmp rfl rfl rfl)
  ·refine Run.setB (t := 14) rfl hc ?_
   refine Run.condF rfl ?_
   refine Run.skip ?_
   refine Run.cutJ (J := fun st => Is [] [] st) ⟨trivial, trivial⟩ ?_
   rintro st hI
   have hI : Is _ _ _ := hI
   revert hI
   refine fun hI => hI.elim ?_
   intro e H
   refine rs ?_
   refine ro ?_
   refine oc ?_
   refine S.move rfl ?_
   refine oz ?_
   refine Run.ret ?_
   obtain rfl := some_inj h
   exact FinS.fin (End.tmp rfl rfl rfl)
 ·refine Run.setB (t := 9) rfl hc ?_
  refine Run.condF rfl ?_
  refine Run.skip ?_
  refine rs ?_
  refine rs ?_
  refine ro ?_
  refine oc ?_
  refine S.move rfl ?_
  refine oc ?_
  refine S.move rfl ?_
  refine oc ?_
  refine S.eqlSM rfl rfl ?_
  refine oz ?_
  rcases ite_some h with ⟨hc, h⟩ | ⟨hc, h⟩
  ·refine Run.setB (t := 17) rfl hc ?_
   refine Run.condT rfl ?_
   refine rs ?_
   refine ro ?_
   refine oc ?_
   refine S.move rfl ?_
   refine oz ?_
   refine Run.ret ?_
   obtain rfl := some_inj h
   exact FinS.fin (End.tmp rfl rfl rfl)
  ·refine Run.setB (t := 17) rfl hc ?_
   refine Run.condF rfl ?_
   refine Run.skip ?_
   refine rs ?_
   refine rs ?_
   refine ro ?_
   refine oc ?_
   refine S.move rfl ?_
   refine oc ?_
   refine S.move rfl ?_
   refine oc ?_
   refine S.lssSM rfl rfl ?_
   refine oz ?_
   refine Run.cutJ (J := fun st => Is [(20, .bool (Op.bytesLess a0 a1))] [] st) ⟨⟨rfl, trivial⟩, trivial⟩ ?_
   rintro st hI
   have hI : Is _ _ _ := hI
   revert hI
   refine fun hI => hI.elim ?_
   intro e H
   rcases ite_some h with ⟨hc, h⟩ | ⟨hc, h⟩
   ·refine Run.setB (t := 20) rfl hc ?_
    refine Run.condT rfl ?_
    refine rs ?_
    refine ro ?_
    refine oc ?_
    refine S.move rfl ?_
    refine oz ?_
    refine Run.ret ?_
    obtain rfl := some_inj h
    exact FinS.fin (End.tmp rfl rfl rfl)
   ·refine Run.setB (t := 20) rfl hc ?_
    refine Run.condF rfl ?_
    refine Run.skip ?_
    refine rs ?_
    refine ro ?_
    refine oc ?_
    refine S.move rfl ?_
    refine oz ?_
    refine Run.ret ?_
    obtain rfl := some_inj h
    exact FinS.fin (End.tmp rfl rfl rfl)

theorem r76 (a0 : List Int) (r : Str) (h : ref01_written a0 = some r) : Fn Try.prog 76 [.sl (List.map c_i64 a0)] (.str (bs r)) := by
 unfold ref01_written at h
 refine Fn.ofS hm Try.func76 t76 (Nat.le_of_ble_eq_true rfl) ?_
 refine rs ?_
 refine ro ?_
 refine oc ?_
 refine S.move rfl ?_
 refine oz ?_
 refine rs ?_
 refine ro ?_
 refine oc ?_
 refine S.move rfl ?_
 refine oc ?_
 refine S.lenLM rfl ?_
 refine oc ?_
 refine S.add rfl rfl rfl ?_
 obtain ⟨v1, h_v1, h⟩ := bnd_some h
 refine oc ?_
 refine S.mkSlM (c := c_u8) rfl rfl h_v1 rfl rfl ?_
 refine oc ?_
 refine S.move rfl ?_
 refine oz ?_
 refine rs ?_
 refine rs ?_
 refine ro ?_
 refine oc ?_
 refine S.move rfl ?_
 refine oc ?_
 refine S.lenLM rfl ?_
 refine oc ?_
 refine S.sub rfl rfl rfl ?_
 refine oc ?_
 refine S.move rfl ?_
 refine oz ?_
 refine Run.block ?_
 obtain ⟨x5, hx, h⟩ := bnd_some h
 refine Run.iter (I := (fun (s : Int × List Int) (st : St) => ∃ g8 : Nat, Is [(0, .sl (List.map c_i64 a0)), (3, .view 8 g8 1 (List.map c_u8 s.2).length), (4, .int .i64 s.1)] [(8, g8, some (.arr 5 1 (List.map c_u8 s.2)))] st)) (X := (XOne (.exit 0) (fun (x : List Int) (st : St) => ∃ g8 : Nat, Is [(3, .view 8 g8 1 (List.map c_u8 x).length)] [(8, g8, some (.arr 5 1 (List.map c_u8 x)))] st))) hx ?_ ?_ ?_
 ·exact ⟨_, ⟨rfl, rfl, rfl, trivial⟩, ⟨rfl, trivial⟩⟩
 ·rintro s2 st ⟨g8, hI⟩ o h
  have hI : Is _ _ _ := hI
  revert hI
  refine fun hI => hI.elim ?_
  intro e H
  refine rs ?_
  refine rs ?_
  refine ro ?_
  refine oc ?_
  refine S.move rfl ?_
  refine oc ?_
  refine S.geq rfl rfl rfl ?_
  refine oz ?_
  rcases ite_some h with ⟨hc, h⟩ | ⟨hc, h⟩
  ·refine Run.setB (t := 13) rfl hc ?_
   refine Run.condT rfl ?_
   refine Run.skip ?_
   refine rs ?_
   refine Run.block ?_
   refine ro ?_
   refine oc ?_
   refine S.move rfl ?_
   refine oc ?_
   refine S.move rfl ?_
   refine oc ?_
   refine S.move rfl ?_
   obtain ⟨v3, h_v3, h⟩ := bnd_some h
   refine oc ?_
   refine S.iaddrLM (c := c_i64) rfl rfl h_v3 (fun _ => rfl) ?_
   refine oc ?_
   refine S.loadC rfl rfl ?_
   refine oc ?_
   refine S.add rfl rfl rfl ?_
   refine oc ?_
   refine S.toInt rfl rfl ?_
   refine oc ?_
   refine S.buildSlM (c := c_u8) (l := ([(wrap .u8 (wrap .i64 (48 + v3)))] : List Int)) (And.intro rfl rfl) rfl rfl rfl ?_
   obtain ⟨v4, h_v4, h⟩ := bnd_some h
   refine oc ?_
   refine S.appVM (c := c_u8) rfl rfl rfl (And.intro rfl (And.intro rfl (And.intro rfl rfl))) (fun _ => rfl) h_v4 ?_
   refine oc ?_
   refine S.move rfl ?_
   refine oz ?_
   refine Run.cutJ (J := fun st => ∃ g8 : Nat, Is [(0, .sl (List.map c_i64 a0)), (3, .view 8 g8 1 (List.map c_u8 v4).length), (4, .int .i64 s2.1)] [(8, g8, some (.arr 5 1 (List.map c_u8 v4)))] st) ⟨_, ⟨rfl, rfl, rfl, trivial⟩, ⟨rfl, trivial⟩⟩ ?_
   rintro st ⟨g8, hI⟩
   have hI : Is _ _ _ := hI
   revert hI
   refine fun hI => hI.elim ?_
   intro e H
   refine ro ?_
   refine oc ?_
   refine S.move rfl ?_
   refine oc ?_
   refine S.sub rfl rfl rfl ?_
   refine oc ?_
   refine S.move rfl ?_
   refine oz ?_
   obtain rfl := some_inj h
   refine LoopPost.next ?_
   exact Leaf.done ⟨_, ⟨rfl, rfl, rfl, trivial⟩, ⟨rfl, trivial⟩⟩
  ·refine Run.setB (t := 13) rfl hc ?_
   refine Run.condF rfl ?_
   refine Run.exit ?_
   obtain rfl := some_inj h
   refine LoopPost.out nofun ?_
   exact Leaf.done (XOne.mk ⟨_, ⟨rfl, trivial⟩, ⟨rfl, trivial⟩⟩)
 ·intro e0 st0 hX
  rcases hX with ⟨hX⟩
  obtain ⟨g8, hI⟩ := hX
  revert hI
  refine fun hI => hI.elim ?_
  intro e H
  refine rs ?_
  refine rs ?_
  refine ro ?_
  refine oc ?_
  refine S.move rfl ?_
  refine oc ?_
  refine S.lenVM rfl ?_
  refine oc ?_
  refine S.eql rfl rfl rfl ?_
  refine oz ?_
  rcases ite_some h with ⟨hc, h⟩ | ⟨hc, h⟩
  ·refine Run.setB (t := 27) rfl hc ?_
   refine Run.condT rfl ?_
   refine rs ?_
   refine ro ?_
   refine oc ?_
   refine S.move rfl ?_
   refine oz ?_
   refine Run.ret ?_
   obtain rfl := some_inj h
   exact FinS.fin (End.tmp rfl rfl rfl)
  ·refine Run.setB (t := 27) rfl hc ?_
   refine Run.condF rfl ?_
   refine Run.skip ?_
   refine rs ?_
   refine ro ?_
   refine oc ?_
   refine S.move rfl ?_
   refine oc ?_
   refine S.b2sM rfl (And.intro rfl (And.intro rfl (And.intro rfl rfl))) ?_
   obtain ⟨v6, h_v6, h⟩ := bnd_some h
   refine oc ?_
   refine S.call (And.intro rfl rfl) (r40 (ofCodes x5) _ h_v6) rfl ?_
   refine oc ?_
   refine S.move rfl ?_
   refine oz ?_
   refine Run.ret ?_
   obtain rfl := some_inj h
   exact FinS.fin (End.tmp rfl rfl rfl)

theorem r88 (a0 : Str) (a1 : Int) (r : Int) (h : ref01_digit a0 a1 = some r) : Fn Try.prog 88 [.str (bs a0), .int .i64 a1] (.int .i64 r) := by
 unfold ref01_digit at h
 refine Fn.ofS hm Try.func88 t88 (Nat.le_of_ble_eq_true rfl) ?_
 refine rs ?_
 refine ro ?_
 refine oc ?_
 refine S.move rfl ?_
 refine oz ?_
 refine rs ?_
 refine rs ?_
 refine ro ?_
 refine oc ?_
 refine S.move rfl ?_
 refine oc ?_
 refine S.move rfl ?_
 refine oc ?_
 refine S.lenSM rfl ?_
 refine oc ?_
 refine S.geq rfl rfl rfl ?_
 refine oz ?_
 rcases ite_some h with ⟨hc, h⟩ | ⟨hc, h⟩
 ·refine Run.setB (t := 8) rfl hc ?_
  refine Run.condT rfl ?_
  refine rs ?_
  refine ro ?_
  refine oc ?_
  refine S.move rfl ?_
  refine oz ?_
  refine Run.ret ?_
  obtain rfl := some_inj h
  exact FinS.fin (End.tmp rfl rfl rfl)
 ·refine Run.setB (t := 8) rfl hc ?_
  refine Run.condF rfl ?_
  refine Run.skip ?_
  refine rs ?_
  refine ro ?_
  refine oc ?_
  refine S.move rfl ?_
  refine oc ?_
  refine S.move rfl ?_
  refine oc ?_
  refine S.lenSM rfl ?_
  refine oc ?_
  refine S.sub rfl rfl rfl ?_
  refine oc ?_
  refine S.move rfl ?_
  refine oc ?_
  refine S.sub rfl rfl rfl ?_
  obtain ⟨v1, h_v1, h⟩ := bnd_some h
  refine oc ?_
  refine S.indexM rfl rfl h_v1 ?_
  refine oc ?_
  refine S.sub rfl rfl rfl ?_
  refine oc ?_
  refine S.toInt rfl rfl ?_
  refine oc ?_
  refine S.move rfl ?_
  refine oz ?_
  refine Run.cutJ (J := fun st => Is [(4, .int .i64 (wrap .i64 (wrap .u8 ((Int.ofNat v1.toNat) - 48))))] [] st) ⟨⟨rfl, trivial⟩, trivial⟩ ?_
  rintro st hI
  have hI : Is _ _ _ := hI
  revert hI
  refine fun hI => hI.elim ?_
  intro e H
  refine Run.ret ?_
  obtain rfl := some_inj h
  exact FinS.fin (End.tmp rfl rfl rfl)

theorem r78 (a0 : Str) (a1 : Str) (r : Str) (h : ref01_Sub a0 a1 = some r) : Fn Try.prog 78 [.str (bs a0), .str (bs a1)] (.str (bs r)) := by
 unfold ref01_Sub at h
 refine Fn.ofS hm Try.func78 t78 (Nat.le_of_ble_eq_true rfl) ?_
 refine rs ?_
 refine ro ?_
 refine oc ?_
 refine S.move rfl ?_
 refine oz ?_
 refine rs ?_
 refine ro ?_
 refine oc ?_
 refine S.move rfl ?_
 refine oz ?_
 refine rs ?_
 refine ro ?_
 refine oc ?_
 refine S.move rfl ?_
 refine oz ?_
 refine rs ?_
 refine rs ?_
 refine ro ?_
 refine oc ?_
 refine S.move rfl ?_
 refine oz ?_
 refine Run.block ?_
 refine Run.ghost (Ghost.nilViewSlot (d := 5) (s := 31) (t := 3) (sz := 1) rfl) ?_
 obtain ⟨x6, hx, h⟩ := bnd_some h
 refine Run.iter (I := (fun (s : Int × Int × List Int) (st : St) => ∃ g31 : Nat, Is [(0, .str (bs a0)), (1, .str (bs a1)), (5, .view 31 g31 1 (List.map c_i64 s.2.2).length), (6, .int .i64 s.1), (7, .int .i64 s.2.1)] [(31, g31, some (.arr 3 1 (List.map c_i64 s.2.2)))] st)) (X := (XOne (.exit 0) (fun (x : List Int) (st : St) => ∃ g31 : Nat, Is [(5, .view 31 g31 1 (List.map c_i64 x).length)] [(31, g31, some (.arr 3 1 (List.map c_i64 x)))] st))) hx ?_ ?_ ?_
 ·exact ⟨_, ⟨rfl, rfl, rfl, rfl, rfl, trivial⟩, ⟨rfl, trivial⟩⟩
 ·rintro s1 st ⟨g31, hI⟩ o h
  have hI : Is _ _ _ := hI
  revert hI
  refine fun hI => hI.elim ?_
  intro e H
  refine rs ?_
  refine rs ?_
  refine ro ?_
  refine oc ?_
  refine S.move rfl ?_
  refine oc ?_
  refine S.move rfl ?_
  refine oc ?_
  refine S.lenSM rfl ?_
  refine oc ?_
  refine S.lss rfl rfl rfl ?_
  refine oz ?_
  rcases ite_some h with ⟨hc, h⟩ | ⟨hc, h⟩
  ·refine Run.setB (t := 12) rfl hc ?_
   refine Run.condT rfl ?_
   refine Run.skip ?_
   refine rs ?_
   refine Run.block ?_
   refine rs ?_
   refine ro ?_
   refine oc ?_
   refine S.move rfl ?_
   refine oc ?_
   refine S.move rfl ?_
   obtain ⟨v2, h_v2, h⟩ := bnd_some h
   refine oc ?_
   refine S.call (And.intro rfl rfl) (r88 a0 s1.2.1 _ h_v2) rfl ?_
   refine oc ?_
   refine S.move rfl ?_
   refine oc ?_
   refine S.move rfl ?_
   obtain ⟨v3, h_v3, h⟩ := bnd_some h
   refine oc ?_
   refine S.call (And.intro rfl rfl) (r88 a1 s1.2.1 _ h_v3) rfl ?_
   refine oc ?_
   refine S.sub rfl rfl rfl ?_
   refine oc ?_
   refine S.move rfl ?_
   refine oc ?_
   refine S.sub rfl rfl rfl ?_
   refine oc ?_
   refine S.move rfl ?_
   refine oz ?_
   refine Run.cutJ (J := fun st => ∃ g31 : Nat, Is [(0, .str (bs a0)), (1, .str (bs a1)), (5, .view 31 g31 1 (List.map c_i64 s1.2.2).length), (7, .int .i64 s1.2.1), (8, .int .i64 (wrap .i64 ((wrap .i64 (v2 - v3)) - s1.1)))] [(31, g31, some (.arr 3 1 (List.map c_i64 s1.2.2)))] st) ⟨_, ⟨rfl, rfl, rfl, rfl, rfl, trivial⟩, ⟨rfl, trivial⟩⟩ ?_
   rintro st ⟨g31, hI⟩
   have hI : Is _ _ _ := hI
   revert hI
   refine fun hI => hI.elim ?_
   intro e H
   refine rs ?_
   refine ro ?_
   refine oc ?_
   refine S.move rfl ?_
   refine oz ?_
   refine rs ?_
   obtain ⟨x4, hx, h⟩ := lt_some h
   refine Run.joinG (X := (XOne .normal (fun (x : Int × Int) (st : St) => ∃ g31 : Nat, Is [(0, .str (bs a0)), (1, .str (bs a1)), (5, .view 31 g31 1 (List.map c_i64 s1.2.2).length), (6, .int .i64 x.1), (7, .int .i64 s1.2.1), (8, .int .i64 x.2)] [(31, g31, some (.arr 3 1 (List.map c_i64 s1.2.2)))] st))) (x := x4) ?_ ?_
   ·replace h := hx
    refine rs ?_
    refine ro ?_
    refine oc ?_
    refine S.move rfl ?_
    refine oc ?_
    refine S.lss rfl rfl rfl ?_
    refine oz ?_
    rcases itep h with ⟨hc, h⟩ | ⟨hc, h⟩
    ·refine Run.setB (t := 25) rfl hc ?_
     refine Run.condT rfl ?_
     refine rs ?_
     refine ro ?_
     refine oc ?_
     refine S.move rfl ?_
     refine oc ?_
     refine S.add rfl rfl rfl ?_
     refine oc ?_
     refine S.move rfl ?_
     refine oz ?_
     refine ro ?_
     refine oc ?_
     refine S.move rfl ?_
     refine oz ?_
     obtain rfl := some_inj h
     refine JP.mk ?_
     exact Leaf.done (XOne.mk ⟨_, ⟨rfl, rfl, rfl, rfl, rfl, rfl, trivial⟩, ⟨rfl, trivial⟩⟩)
    ·refine Run.setB (t := 25) rfl hc ?_
     refine Run.condF rfl ?_
     refine Run.skip ?_
     obtain rfl := some_inj h
     refine JP.mk ?_
     exact Leaf.done (XOne.mk ⟨_, ⟨rfl, rfl, rfl, rfl, rfl, rfl, trivial⟩, ⟨rfl, trivial⟩⟩)
   ·intro e0 st0 hX
    rcases hX with ⟨hX⟩
    obtain ⟨g31, hI⟩ := hX
    revert hI
    refine fun hI => hI.elim ?_
    intro e H
    refine ro ?_
    refine oc ?_
    refine S.move rfl ?_
    refine oc ?_
    refine S.move rfl ?_
    refine oc ?_
    refine S.buildSlM (c := c_i64) (l := ([x4.2] : List Int)) (And.intro rfl rfl) rfl rfl rfl ?_
    obtain ⟨v5, h_v5, h⟩ := bnd_some h
    refine oc ?_
    refine S.appVM (c := c_i64) rfl rfl rfl (And.intro rfl (And.intro rfl (And.intro rfl rfl))) (fun _ => rfl) h_v5 ?_
    refine oc ?_
    refine S.move rfl ?_
    refine oz ?_
    refine ro ?_
    refine oc ?_
    refine S.move rfl ?_
    refine oc ?_
    refine S.add rfl rfl rfl ?_
    refine oc ?_
    refine S.move rfl ?_
    refine oz ?_
    obtain rfl := some_inj h
    refine LoopPost.next ?_
    exact Leaf.done ⟨_, ⟨rfl, rfl, rfl, rfl, rfl, trivial⟩, ⟨rfl, trivial⟩⟩
  ·refine Run.setB (t := 12) rfl hc ?_
   refine Run.condF rfl ?_
   refine Run.exit ?_
   obtain rfl := some_inj h
   refine LoopPost.out nofun ?_
   exact Leaf.done (XOne.mk ⟨_, ⟨rfl, trivial⟩, ⟨rfl, trivial⟩⟩)
 ·intro e0 st0 hX
  rcases hX with ⟨hX⟩
  obtain ⟨g31, hI⟩ := hX
  revert hI
  refine fun hI => hI.elim ?_
  intro e H
  refine rs ?_
  refine ro ?_
  refine oc ?_
  refine S.move rfl ?_
  obtain ⟨v7, h_v7, h⟩ := bnd_some h
  refine oc ?_
  refine S.call (And.intro rfl (And.intro rfl (And.intro rfl (And.intro rfl rfl)))) (r76 x6 _ h_v7) rfl ?_
  refine oc ?_
  refine S.move rfl ?_
  refine oz ?_
  refine Run.ret ?_
  obtain rfl := some_inj h
  exact FinS.fin (End.tmp rfl rfl rfl)

theorem r61 (a0 : Str) (a1 : Str) (r : Str × Str) (h : ref01_DivMod a0 a1 = some r) : Fn Try.prog 61 [.str (bs a0), .str (bs a1)] (.tup [.str (bs r.1), .str (bs r.2)]) := by
 unfold ref01_DivMod at h
 refine Fn.ofS hm Try.func61 t61 (Nat.le_of_ble_eq_true rfl) ?_
 refine rs ?_
 refine ro ?_
 refine oc ?_
 refine S.move rfl ?_
 refine oc ?_
 refine S.move rfl ?_
 refine oz ?_
 refine rs ?_
 refine ro ?_
 refine oc ?_
 refine S.move rfl ?_
 refine oc ?_
 refine S.lenSM rfl ?_
 obtain ⟨v1, h_v1, h⟩ := bnd_some h
 refine oc ?_
 refine S.mkSlM (c := c_u8) rfl rfl h_v1 rfl rfl ?_
 refine oc ?_
 refine S.move rfl ?_
 refine oz ?_
 refine rs ?_
 refine ro ?_
 refine oc ?_
 refine S.move rfl ?_
 refine oz ?_
 refine rs ?_
 refine rs ?_
 refine ro ?_
 refine oc ?_
 refine S.move rfl ?_
 refine oz ?_
 refine Run.block ?_
 obtain ⟨x12, hx, h⟩ := bnd_some h
 refine Run.iter (I := (fun (s : Str × Int × List Int) (st : St) => ∃ g12 : Nat, Is [(0, .str (bs a0)), (1, .str (bs a1)), (6, .view 12 g12 1 (List.map c_u8 s.2.2).length), (7, .str (bs s.1)), (8, .int .i64 s.2.1)] [(12, g12, some (.arr 5 1 (List.map c_u8 s.2.2)))] st)) (X := (XOne (.exit 0) (fun (x : Str × List Int) (st : St) => ∃ g12 : Nat, Is [(6, .view 12 g12 1 (List.map c_u8 x.2).length), (7, .str (bs x.1))] [(12, g12, some (.arr 5 1 (List.map c_u8 x.2)))] st))) hx ?_ ?_ ?_
 ·exact ⟨_, ⟨rfl, rfl, rfl, rfl, rfl, trivial⟩, ⟨rfl, trivial⟩⟩
 ·rintro s2 st ⟨g12, hI⟩ o h
  have hI : Is _ _ _ := hI
  revert hI
  refine fun hI => hI.elim ?_
  intro e H
  refine rs ?_
  refine rs ?_
  refine ro ?_
  refine oc ?_
  refine S.move rfl ?_
  refine oc ?_
  refine S.move rfl ?_
  refine oc ?_
  refine S.lenSM rfl ?_
  refine oc ?_
  refine S.lss rfl rfl rfl ?_
  refine oz ?_
  rcases ite_some h with ⟨hc, h⟩ | ⟨hc, h⟩
  ·refine Run.setB (t := 16) rfl hc ?_
   refine Run.condT rfl ?_
   refine Run.skip ?_
   refine rs ?_
   refine Run.block ?_
   refine rs ?_
   refine ro ?_
   refine oc ?_
   refine S.move rfl ?_
   refine oc ?_
   refine S.move rfl ?_
   refine oc ?_
   refine S.move rfl ?_
   refine oc ?_
   refine S.move rfl ?_
   refine oc ?_
   refine S.add rfl rfl rfl ?_
   obtain ⟨v3, h_v3, h⟩ := bnd_some h
   refine oc ?_
   refine S.sliceSTT rfl rfl rfl h_v3 ?_
   obtain ⟨v4, h_v4, h⟩ := bnd_some h
   refine oc ?_
   refine S.addSM rfl rfl h_v4 ?_
   obtain ⟨v5, h_v5, h⟩ := bnd_some h
   refine oc ?_
   refine S.call (And.intro rfl rfl) (r40 v4 _ h_v5) rfl ?_
   refine oc ?_
   refine S.move rfl ?_
   refine oz ?_
   refine Run.cutJ (J := fun st => ∃ g12 : Nat, Is [(0, .str (bs a0)), (1, .str (bs a1)), (6, .view 12 g12 1 (List.map c_u8 s2.2.2).length), (7, .str (bs v5)), (8, .int .i64 s2.2.1)] [(12, g12, some (.arr 5 1 (List.map c_u8 s2.2.2)))] st) ⟨_, ⟨rfl, rfl, rfl, rfl, rfl, trivial⟩, ⟨rfl, trivial⟩⟩ ?_
   rintro st ⟨g12, hI⟩
   have hI : Is _ _ _ := hI
   revert hI
   refine fun hI => hI.elim ?_
   intro e H
   refine rs ?_
   refine ro ?_
   refine oc ?_
   refine S.move rfl ?_
   refine oz ?_
   refine rs ?_
   refine Run.block ?_
   obtain ⟨x10, hx, h⟩ := bnd_some h
   refine Run.iter (I := (fun (s : Str × Int) (st : St) => ∃ g12 : Nat, Is [(0, .str (bs a0)), (1, .str (bs a1)), (6, .view 12 g12 1 (List.map c_u8 s2.2.2).length), (7, .str (bs s.1)), (8, .int .i64 s2.2.1), (9, .int .i64 s.2)] [(12, g12, some (.arr 5 1 (List.map c_u8 s2.2.2)))] st)) (X := (XOne (.exit 2) (fun (x : Str × Int) (st : St) => ∃ g12 : Nat, Is [(0, .str (bs a0)), (1, .str (bs a1)), (6, .view 12 g12 1 (List.map c_u8 s2.2.2).length), (7, .str (bs x.1)), (8, .int .i64 s2.2.1), (9, .int .i64 x.2)] [(12, g12, some (.arr 5 1 (List.map c_u8 s2.2.2)))] st))) hx ?_ ?_ ?_
   ·exact ⟨_, ⟨rfl, rfl, rfl, rfl, rfl, rfl, trivial⟩, ⟨rfl, trivial⟩⟩
   ·rintro s6 st ⟨g12, hI⟩ o h
    have hI : Is _ _ _ := hI
    revert hI
    refine fun hI => hI.elim ?_
    intro e H
    refine rs ?_
    refine rs ?_
    refine ro ?_
    refine oc ?_
    refine S.move rfl ?_
    refine oc ?_
    refine S.move rfl ?_
    obtain ⟨v7, h_v7, h⟩ := bnd_some h
    refine oc ?_
    refine S.call (And.intro rfl rfl) (r77 s6.1 a1 _ h_v7) rfl ?_
    refine oc ?_
    refine S.geq rfl rfl rfl ?_
    refine oc ?_
    refine S.move rfl ?_
    obtain ⟨x8, hx, h⟩ := lt_some h
    refine OpsR.splitAt 3 (J := fun st => ∃ g12 : Nat, Is [(0, .str (bs a0)), (1, .str (bs a1)), (6, .view 12 g12 1 (List.map c_u8 s2.2.2).length), (7, .str (bs s6.1)), (8, .int .i64 s2.2.1), (9, .int .i64 s6.2), (34, .bool x8)] [(12, g12, some (.arr 5 1 (List.map c_u8 s2.2.2)))] st) ?_ ?_
    ·replace h := hx
     rcases itep h with ⟨hc, h⟩ | ⟨hc, h⟩
     ·refine OpsR.setB (t := 31) rfl hc ?_
      refine oc ?_
      refine S.on rfl ?_
      refine S.move rfl ?_
      refine oc ?_
      refine S.on rfl ?_
      refine S.lss rfl rfl rfl ?_
      refine oc ?_
      refine S.pick rfl rfl rfl rfl ?_
      obtain rfl := some_inj h
      refine oz ?_
      exact ⟨_, ⟨rfl, rfl, rfl, rfl, rfl, rfl, rfl, trivial⟩, ⟨rfl, trivial⟩⟩
     ·refine OpsR.setB (t := 31) rfl hc ?_
      refine oc ?_
      refine S.off rfl (by decide) ?_
      refine oc ?_
      refine S.off rfl (by decide) ?_
      refine oc ?_
      refine S.pick rfl rfl rfl rfl ?_
      obtain rfl := some_inj h
      refine oz ?_
      exact ⟨_, ⟨rfl, rfl, rfl, rfl, rfl, rfl, rfl, trivial⟩, ⟨rfl, trivial⟩⟩
    ·rintro st ⟨g12, hI⟩
     have hI : Is _ _ _ := hI
     revert hI
     refine fun hI => hI.elim ?_
     intro e H
     refine oz ?_
     rcases ite_some h with ⟨hc, h⟩ | ⟨hc, h⟩
     ·refine Run.setB (t := 34) rfl hc ?_
      refine Run.condT rfl ?_
      refine Run.skip ?_
      refine Run.block ?_
      refine rs ?_
      refine ro ?_
      refine oc ?_
      refine S.move rfl ?_
      refine oc ?_
      refine S.move rfl ?_
      obtain ⟨v9, h_v9, h⟩ := bnd_some h
      refine oc ?_
      refine S.call (And.intro rfl rfl) (r78 s6.1 a1 _ h_v9) rfl ?_
      refine oc ?_
      refine S.move rfl ?_
      refine oz ?_
      refine ro ?_
      refine oc ?_
      refine S.move rfl ?_
      refine oc ?_
      refine S.add rfl rfl rfl ?_
      refine oc ?_
      refine S.move rfl ?_
      refine oz ?_
      obtain rfl := some_inj h
      refine LoopPost.next ?_
      exact Leaf.done ⟨_, ⟨rfl, rfl, rfl, rfl, rfl, rfl, trivial⟩, ⟨rfl, trivial⟩⟩
     ·refine Run.setB (t := 34) rfl hc ?_
      refine Run.condF rfl ?_
      refine Run.exit ?_
      obtain rfl := some_inj h
      refine LoopPost.out nofun ?_
      exact Leaf.done (XOne.mk ⟨_, ⟨rfl, rfl, rfl, rfl, rfl, rfl, trivial⟩, ⟨rfl, trivial⟩⟩)
   ·intro e0 st0 hX
    rcases hX with ⟨hX⟩
    obtain ⟨g12, hI⟩ := hX
    revert hI
    refine fun hI => hI.elim ?_
    intro e H
    refine ro ?_
    refine oc ?_
    refine S.move rfl ?_
    refine oc ?_
    refine S.move rfl ?_
    refine oc ?_
    refine S.add rfl rfl rfl ?_
    refine oc ?_
    refine S.toInt rfl rfl ?_
    refine oc ?_
    refine S.buildSlM (c := c_u8) (l := ([(wrap .u8 (wrap .i64 (48 + x10.2)))] : List Int)) (And.intro rfl rfl) rfl rfl rfl ?_
    obtain ⟨v11, h_v11, h⟩ := bnd_some h
    refine oc ?_
    refine S.appVM (c := c_u8) rfl rfl rfl (And.intro rfl (And.intro rfl (And.intro rfl rfl))) (fun _ => rfl) h_v11 ?_
    refine oc ?_
    refine S.move rfl ?_
    refine oz ?_
    refine ro ?_
    refine oc ?_
    refine S.move rfl ?_
    refine oc ?_
    refine S.add rfl rfl rfl ?_
    refine oc ?_
    refine S.move rfl ?_
    refine oz ?_
    obtain rfl := some_inj h
    refine LoopPost.next ?_
    exact Leaf.done ⟨_, ⟨rfl, rfl, rfl, rfl, rfl, trivial⟩, ⟨rfl, trivial⟩⟩
  ·refine Run.setB (t := 16) rfl hc ?_
   refine Run.condF rfl ?_
   refine Run.exit ?_
   obtain rfl := some_inj h
   refine LoopPost.out nofun ?_
   exact Leaf.done (XOne.mk ⟨_, ⟨rfl, rfl, trivial⟩, ⟨rfl, trivial⟩⟩)
 ·intro e0 st0 hX
  rcases hX with ⟨hX⟩
  obtain ⟨g12, hI⟩ := hX
  revert hI
  refine fun hI => hI.elim ?_
  intro e H
  refine rs ?_
  refine ro ?_
  refine oc ?_
  refine S.move rfl ?_
  refine oc ?_
  refine S.b2sM rfl (And.intro rfl (And.intro rfl (And.intro rfl rfl))) ?_
  obtain ⟨v13, h_v13, h⟩ := bnd_some h
  refine oc ?_
  refine S.call (And.intro rfl rfl) (r40 (ofCodes x12.2) _ h_v13) rfl ?_
  refine oc ?_
  refine S.move rfl ?_
  refine oc ?_
  refine S.move rfl ?_
  refine oc ?_
  refine S.move rfl ?_
  refine oz ?_
  refine Run.ret ?_
  obtain rfl := some_inj h
  exact FinS.fin (End.all rfl)

theorem r41 (a0 : Str) (a1 : Str) (r : Str) (h : ref01_Gcd a0 a1 = some r) : Fn Try.prog 41 [.str (bs a0), .str (bs a1)] (.str (bs r)) := by
 unfold ref01_Gcd at h
 refine Fn.ofS hm Try.func41 t41 (Nat.le_of_ble_eq_true rfl) ?_
 refine rs ?_
 refine ro ?_
 refine oc ?_
 refine S.move rfl ?_
 refine oz ?_
 refine rs ?_
 refine rs ?_
 refine ro ?_
 refine oc ?_
 refine S.move rfl ?_
 refine oz ?_
 refine Run.block ?_
 obtain ⟨x4, hx, h⟩ := bnd_some h
 refine Run.iter (I := (fun (s : Str × Str × Int) (st : St) => Is [(0, .str (bs s.1)), (1, .str (bs s.2.1)), (5, .int .i64 s.2.2)] [] st)) (X := (XOne (.exit 0) (fun (x : Str) (st : St) => Is [(0, .str (bs x))] [] st))) hx ?_ ?_ ?_
 ·exact ⟨⟨rfl, rfl, rfl, trivial⟩, trivial⟩
 ·rintro s1 st hI o h
  have hI : Is _ _ _ := hI
  revert hI
  refine fun hI => hI.elim ?_
  intro e H
  refine rs ?_
  refine rs ?_
  refine ro ?_
  refine oc ?_
  refine S.move rfl ?_
  refine oc ?_
  refine S.lss rfl rfl rfl ?_
  refine oc ?_
  refine S.move rfl ?_
  obtain ⟨x2, hx, h⟩ := lt_some h
  refine OpsR.splitAt 3 (J := fun st => Is [(0, .str (bs s1.1)), (1, .str (bs s1.2.1)), (5, .int .i64 s1.2.2), (13, .bool x2)] [] st) ?_ ?_
  ·replace h := hx
   rcases itep h with ⟨hc, h⟩ | ⟨hc, h⟩
   ·refine OpsR.setB (t := 10) rfl hc ?_
    refine oc ?_
    refine S.on rfl ?_
    refine S.move rfl ?_
    refine oc ?_
    refine S.on rfl ?_
    refine S.neqSM rfl rfl ?_
    refine oc ?_
    refine S.pick rfl rfl rfl rfl ?_
    obtain rfl := some_inj h
    refine oz ?_
    exact ⟨⟨rfl, rfl, rfl, rfl, trivial⟩, trivial⟩
   ·refine OpsR.setB (t := 10) rfl hc ?_
    refine oc ?_
    refine S.off rfl (by decide) ?_
    refine oc ?_
    refine S.off rfl (by decide) ?_
    refine oc ?_
    refine S.pick rfl rfl rfl rfl ?_
    obtain rfl := some_inj h
    refine oz ?_
    exact ⟨⟨rfl, rfl, rfl, rfl, trivial⟩, trivial⟩
  ·rintro st hI
   have hI : Is _ _ _ := hI
   revert hI
   refine fun hI => hI.elim ?_
   intro e H
   refine oz ?_
   rcases ite_some h with ⟨hc, h⟩ | ⟨hc, h⟩
   ·refine Run.setB (t := 13) rfl hc ?_
    refine Run.condT rfl ?_
    refine Run.skip ?_
    refine rs ?_
    refine Run.block ?_
    refine rs ?_
    refine ro ?_
    refine oc ?_
    refine S.move rfl ?_
    refine oc ?_
    refine S.move rfl ?_
    obtain ⟨v3, h_v3, h⟩ := bnd_some h
    refine oc ?_
    refine S.call (And.intro rfl rfl) (r61 s1.1 s1.2.1 _ h_v3) rfl ?_
    refine oc ?_
    refine S.move rfl ?_
    refine oc ?_
    refine S.extract rfl rfl ?_
    refine oc ?_
    refine S.extract rfl rfl ?_
    refine oc ?_
    refine S.move rfl ?_
    refine oc ?_
    refine S.move rfl ?_
    refine oz ?_
    refine rs ?_
    refine ro ?_
    refine oc ?_
    refine S.move rfl ?_
    refine oc ?_
    refine S.move rfl ?_
    refine oz ?_
    refine ro ?_
    refine oc ?_
    refine S.move rfl ?_
    refine oc ?_
    refine S.move rfl ?_
    refine oz ?_
    refine Run.cutJ (J := fun st => Is [(0, .str (bs s1.2.1)), (1, .str (bs v3.2)), (5, .int .i64 s1.2.2)] [] st) ⟨⟨rfl, rfl, rfl, trivial⟩, trivial⟩ ?_
    rintro st hI
    have hI : Is _ _ _ := hI
    revert hI
    refine fun hI => hI.elim ?_
    intro e H
    refine ro ?_
    refine oc ?_
    refine S.move rfl ?_
    refine oc ?_
    refine S.add rfl rfl rfl ?_
    refine oc ?_
    refine S.move rfl ?_
    refine oz ?_
    obtain rfl := some_inj h
    refine LoopPost.next ?_
    exact Leaf.done ⟨⟨rfl, rfl, rfl, trivial⟩, trivial⟩
   ·refine Run.setB (t := 13) rfl hc ?_
    refine Run.condF rfl ?_
    refine Run.exit ?_
    obtain rfl := some_inj h
    refine LoopPost.out nofun ?_
    exact Leaf.done (XOne.mk ⟨⟨rfl, trivial⟩, trivial⟩)
 ·intro e0 st0 hX
  rcases hX with ⟨hX⟩
  have hI : Is _ _ _ := hX
  revert hI
  refine fun hI => hI.elim ?_
  intro e H
  refine rs ?_
  refine ro ?_
  refine oc ?_
  refine S.move rfl ?_
  refine oc ?_
  refine S.move rfl ?_
  refine oz ?_
  refine Run.ret ?_
  obtain rfl := some_inj h
  exact FinS.fin (End.tmp rfl rfl rfl)

theorem r18 (a0 : T_api_Num) (r : Bool) (h : ref03_Right a0 = some r) : Fn Try.prog 18 [.agg (c_api_Num a0)] (.bool r) := by
 unfold ref03_Right at h
 refine Fn.ofS hm Try.func18 t18 (Nat.le_of_ble_eq_true rfl) ?_
 refine rs ?_
 refine ro ?_
 refine oc ?_
 refine S.box rfl rfl rfl rfl ?_
 refine oc ?_
 refine S.move rfl ?_
 refine oz ?_
 refine rs ?_
 refine rs ?_
 obtain ⟨x5, hx, h⟩ := bnd_some h
 refine Run.joinG (X := (XOne .normal (fun (x : Bool) (st : St) => ∃ g1 : Nat, Is [(1, .ptr 1 g1 0), (33, .bool x)] [(1, g1, some (.box [.bool a0.1, .str (bs a0.2.1), .str (bs a0.2.2)]))] st))) (x := x5) ?_ ?_
 ·replace h := hx
  refine Run.drawn ?_
  refine d0 rfl ?_
  refine S.faddrP rfl rfl ?_
  refine d1 (x := (_, _)) rfl rfl ?_
  refine S.loadP rfl rfl rfl ?_
  obtain ⟨v1, h_v1, h⟩ := bnd_some h
  refine d1 (x := (_, _)) rfl rfl ?_
  refine S.call (And.intro rfl rfl) (r39 a0.2.1 _ h_v1) rfl ?_
  refine d0 rfl ?_
  refine S.not rfl rfl ?_
  refine d0 rfl ?_
  refine S.move rfl ?_
  rcases ite_some h with ⟨hc, h⟩ | ⟨hc, h⟩
  ·refine DrawR.setB (t := 7) rfl hc ?_
   refine d0 rfl ?_
   refine S.off rfl (by decide) ?_
   refine d0 rfl ?_
   refine S.off rfl (by decide) ?_
   refine d0 rfl ?_
   refine S.off rfl (by decide) ?_
   refine d0 rfl ?_
   refine S.off rfl (by decide) ?_
   refine d0 rfl ?_
   refine S.pick rfl rfl rfl rfl ?_
   refine d0 rfl ?_
   refine S.move rfl ?_
   refine d0 rfl ?_
   refine S.off rfl (by decide) ?_
   refine d0 rfl ?_
   refine S.off rfl (by decide) ?_
   refine d0 rfl ?_
   refine S.off rfl (by decide) ?_
   refine d0 rfl ?_
   refine S.off rfl (by decide) ?_
   refine d0 rfl ?_
   refine S.off rfl (by decide) ?_
   refine d0 rfl ?_
   refine S.off rfl (by decide) ?_
   refine d0 rfl ?_
   refine S.pick rfl rfl rfl rfl ?_
   refine d0 rfl ?_
   refine S.move rfl ?_
   refine d0 rfl ?_
   refine S.off rfl (by decide) ?_
   refine d0 rfl ?_
   refine S.off rfl (by decide) ?_
   refine DrawR.cutJ (J := fun st => ∃ g1 : Nat, Is [(1, .ptr 1 g1 0), (21, .bool true), (23, .undef)] [(1, g1, some (.box [.bool a0.1, .str (bs a0.2.1), .str (bs a0.2.2)]))] st) ⟨_, ⟨rfl, rfl, rfl, trivial⟩, ⟨rfl, trivial⟩⟩ ?_
   rintro st ⟨g1, hI⟩
   have hI : Is _ _ _ := hI
   revert hI
   refine fun hI => hI.elim ?_
   intro e H
   refine d0 rfl ?_
   refine S.off rfl (by decide) ?_
   refine d0 rfl ?_
   refine S.off rfl (by decide) ?_
   refine d0 rfl ?_
   refine S.off rfl (by decide) ?_
   refine d0 rfl ?_
   refine S.off rfl (by decide) ?_
   refine d0 rfl ?_
   refine S.pick rfl rfl rfl rfl ?_
   refine d0 rfl ?_
   refine S.move rfl ?_
   refine d0 rfl ?_
   refine S.off rfl (by decide) ?_
   refine d0 rfl ?_
   refine S.off rfl (by decide) ?_
   refine d0 rfl ?_
   refine S.off rfl (by decide) ?_
   refine d0 rfl ?_
   refine S.pick rfl rfl rfl rfl ?_
   refine DrawR.nil ?_
   obtain rfl := some_inj h
   refine JP.mk ?_
   exact Leaf.done (XOne.mk ⟨_, ⟨rfl, rfl, trivial⟩, ⟨rfl, trivial⟩⟩)
  ·refine DrawR.setB (t := 7) rfl hc ?_
   refine d0 rfl ?_
   refine S.on rfl ?_
   refine S.faddrP rfl rfl ?_
   refine d1 (x := (_, _)) rfl rfl ?_
   refine S.on rfl ?_
   refine S.loadP rfl rfl rfl ?_
   obtain ⟨v2, h_v2, h⟩ := bnd_some h
   refine d1 (x := (_, _)) rfl rfl ?_
   refine S.on rfl ?_
   refine S.call (And.intro rfl rfl) (r39 a0.2.2 _ h_v2) rfl ?_
   refine d0 rfl ?_
   refine S.on rfl ?_
   refine S.not rfl rfl ?_
   refine d0 rfl ?_
   refine S.pick rfl rfl rfl rfl ?_
   refine d0 rfl ?_
   refine S.move rfl ?_
   rcases ite_some h with ⟨hc, h⟩ | ⟨hc, h⟩
   ·refine DrawR.setB (t := 13) rfl hc ?_
    refine d0 rfl ?_
    refine S.off rfl (by decide) ?_
    refine d0 rfl ?_
    refine S.off rfl (by decide) ?_
    refine d0 rfl ?_
    refine S.off rfl (by decide) ?_
    refine d0 rfl ?_
    refine S.off rfl (by decide) ?_
    refine d0 rfl ?_
    refine S.off rfl (by decide) ?_
    refine d0 rfl ?_
    refine S.off rfl (by decide) ?_
    refine d0 rfl ?_
    refine S.pick rfl rfl rfl rfl ?_
    refine d0 rfl ?_
    refine S.move rfl ?_
    refine d0 rfl ?_
    refine S.off rfl (by decide) ?_
    refine DrawR.cutJ (J := fun st => ∃ g1 : Nat, Is [(1, .ptr 1 g1 0), (21, .bool true), (22, .undef)] [(1, g1, some (.box [.bool a0.1, .str (bs a0.2.1), .str (bs a0.2.2)]))] st) ⟨_, ⟨rfl, rfl, rfl, trivial⟩, ⟨rfl, trivial⟩⟩ ?_
    rintro st ⟨g1, hI⟩
    have hI : Is _ _ _ := hI
    revert hI
    refine fun hI => hI.elim ?_
    intro e H
    refine d0 rfl ?_
    refine S.off rfl (by decide) ?_
    refine d0 rfl ?_
    refine S.off rfl (by decide) ?_
    refine d0 rfl ?_
    refine S.off rfl (by decide) ?_
    refine d0 rfl ?_
    refine S.off rfl (by decide) ?_
    refine d0 rfl ?_
    refine S.off rfl (by decide) ?_
    refine d0 rfl ?_
    refine S.pick rfl rfl rfl rfl ?_
    refine d0 rfl ?_
    refine S.move rfl ?_
    refine d0 rfl ?_
    refine S.off rfl (by decide) ?_
    refine d0 rfl ?_
    refine S.off rfl (by decide) ?_
    refine d0 rfl ?_
    refine S.off rfl (by decide) ?_
    refine d0 rfl ?_
    refine S.pick rfl rfl rfl rfl ?_
    refine DrawR.nil ?_
    obtain rfl := some_inj h
    refine JP.mk ?_
    exact Leaf.done (XOne.mk ⟨_, ⟨rfl, rfl, trivial⟩, ⟨rfl, trivial⟩⟩)
   ·refine DrawR.setB (t := 13) rfl hc ?_
    refine d0 rfl ?_
    refine S.on rfl ?_
    refine S.faddrP rfl rfl ?_
    refine d1 (x := (_, _)) rfl rfl ?_
    refine S.on rfl ?_
    refine S.loadP rfl rfl rfl ?_
    obtain ⟨v3, h_v3, h⟩ := bnd_some h
    refine d1 (x := (_, _)) rfl rfl ?_
    refine S.on rfl ?_
    refine S.call (And.intro rfl rfl) (r40 a0.2.1 _ h_v3) rfl ?_
    refine d0 rfl ?_
    refine S.on rfl ?_
    refine S.faddrP rfl rfl ?_
    refine d1 (x := (_, _)) rfl rfl ?_
    refine S.on rfl ?_
    refine S.loadP rfl rfl rfl ?_
    refine d0 rfl ?_
    refine S.on rfl ?_
    refine S.neqSM rfl rfl ?_
    refine d0 rfl ?_
    refine S.pick rfl rfl rfl rfl ?_
    refine d0 rfl ?_
    refine S.move rfl ?_
    rcases ite_some h with ⟨hc, h⟩ | ⟨hc, h⟩
    ·refine DrawR.setB (t := 21) rfl hc ?_
     refine DrawR.cutJ (J := fun st => ∃ g1 : Nat, Is [(1, .ptr 1 g1 0), (21, .bool true)] [(1, g1, some (.box [.bool a0.1, .str (bs a0.2.1), .str (bs a0.2.2)]))] st) ⟨_, ⟨rfl, rfl, trivial⟩, ⟨rfl, trivial⟩⟩ ?_
     rintro st ⟨g1, hI⟩
     have hI : Is _ _ _ := hI
     revert hI
     refine fun hI => hI.elim ?_
     intro e H
     refine d0 rfl ?_
     refine S.off rfl (by decide) ?_
     refine d0 rfl ?_
     refine S.off rfl (by decide) ?_
     refine d0 rfl ?_
     refine S.off rfl (by decide) ?_
     refine d0 rfl ?_
     refine S.off rfl (by decide) ?_
     refine d0 rfl ?_
     refine S.off rfl (by decide) ?_
     refine d0 rfl ?_
     refine S.off rfl (by decide) ?_
     refine d0 rfl ?_
     refine S.pick rfl rfl rfl rfl ?_
     refine d0 rfl ?_
     refine S.move rfl ?_
     refine d0 rfl ?_
     refine S.off rfl (by decide) ?_
     refine d0 rfl ?_
     refine S.off rfl (by decide) ?_
     refine d0 rfl ?_
     refine S.off rfl (by decide) ?_
     refine d0 rfl ?_
     refine S.pick rfl rfl rfl rfl ?_
     refine DrawR.nil ?_
     obtain rfl := some_inj h
     refine JP.mk ?_
     exact Leaf.done (XOne.mk ⟨_, ⟨rfl, rfl, trivial⟩, ⟨rfl, trivial⟩⟩)
    ·refine DrawR.setB (t := 21) rfl hc ?_
     refine DrawR.cutJ (J := fun st => ∃ g1 : Nat, Is [(1, .ptr 1 g1 0), (21, .bool false)] [(1, g1, some (.box [.bool a0.1, .str (bs a0.2.1), .str (bs a0.2.2)]))] st) ⟨_, ⟨rfl, rfl, trivial⟩, ⟨rfl, trivial⟩⟩ ?_
     rintro st ⟨g1, hI⟩
     have hI : Is _ _ _ := hI
     revert hI
     refine fun hI => hI.elim ?_
     intro e H
     refine d0 rfl ?_
     refine S.on rfl ?_
     refine S.faddrP rfl rfl ?_
     refine d1 (x := (_, _)) rfl rfl ?_
     refine S.on rfl ?_
     refine S.loadP rfl rfl rfl ?_
     obtain ⟨v4, h_v4, h⟩ := bnd_some h
     refine d1 (x := (_, _)) rfl rfl ?_
     refine S.on rfl ?_
     refine S.call (And.intro rfl rfl) (r40 a0.2.2 _ h_v4) rfl ?_
     refine d0 rfl ?_
     refine S.on rfl ?_
     refine S.faddrP rfl rfl ?_
     refine d1 (x := (_, _)) rfl rfl ?_
     refine S.on rfl ?_
     refine S.loadP rfl rfl rfl ?_
     refine d0 rfl ?_
     refine S.on rfl ?_
     refine S.neqSM rfl rfl ?_
     refine d0 rfl ?_
     refine S.pick rfl rfl rfl rfl ?_
     refine d0 rfl ?_
     refine S.move rfl ?_
     rcases ite_some h with ⟨hc, h⟩ | ⟨hc, h⟩
     ·refine DrawR.setB (t := 29) rfl hc ?_
      refine d0 rfl ?_
      refine S.off rfl (by decide) ?_
      refine d0 rfl ?_
      refine S.off rfl (by decide) ?_
      refine d0 rfl ?_
      refine S.off rfl (by decide) ?_
      refine d0 rfl ?_
      refine S.pick rfl rfl rfl rfl ?_
      refine DrawR.nil ?_
      obtain rfl := some_inj h
      refine JP.mk ?_
      exact Leaf.done (XOne.mk ⟨_, ⟨rfl, rfl, trivial⟩, ⟨rfl, trivial⟩⟩)
     ·refine DrawR.setB (t := 29) rfl hc ?_
      refine d0 rfl ?_
      refine S.on rfl ?_
      refine S.faddrP rfl rfl ?_
      refine d1 (x := (_, _)) rfl rfl ?_
      refine S.on rfl ?_
      refine S.loadP rfl rfl rfl ?_
      refine d0 rfl ?_
      refine S.on rfl ?_
      refine S.eqlSM rfl rfl ?_
      refine d0 rfl ?_
      refine S.pick rfl rfl rfl rfl ?_
      refine DrawR.nil ?_
      obtain rfl := some_inj h
      refine JP.mk ?_
      exact Leaf.done (XOne.mk ⟨_, ⟨rfl, rfl, trivial⟩, ⟨rfl, trivial⟩⟩)
 ·intro e0 st0 hX
  rcases hX with ⟨hX⟩
  obtain ⟨g1, hI⟩ := hX
  revert hI
  refine fun hI => hI.elim ?_
  intro e H
  rcases ite_some h with ⟨hc, h⟩ | ⟨hc, h⟩
  ·refine Run.setB (t := 33) rfl hc ?_
   refine Run.condT rfl ?_
   refine rs ?_
   refine ro ?_
   refine oc ?_
   refine S.move rfl ?_
   refine oz ?_
   refine Run.ret ?_
   obtain rfl := some_inj h
   exact FinS.fin (End.tmp rfl rfl rfl)
  ·refine Run.setB (t := 33) rfl hc ?_
   refine Run.condF rfl ?_
   refine Run.skip ?_
   refine rs ?_
   refine ro ?_
   refine oc ?_
   refine S.faddrP rfl rfl ?_
   refine oc ?_
   refine S.loadP rfl rfl rfl ?_
   refine oc ?_
   refine S.faddrP rfl rfl ?_
   refine oc ?_
   refine S.loadP rfl rfl rfl ?_
   obtain ⟨v6, h_v6, h⟩ := bnd_some h
   refine oc ?_
   refine S.call (And.intro rfl rfl) (r41 a0.2.1 a0.2.2 _ h_v6) rfl ?_
   refine oc ?_
   refine S.eqlSM rfl rfl ?_
   refine oc ?_
   refine S.move rfl ?_
   obtain ⟨x8, hx, h⟩ := bnd_some h
   refine OpsR.splitAt 9 (J := fun st => Is [(49, .bool x8)] [] st) ?_ ?_
   ·replace h := hx
    rcases ite_some h with ⟨hc, h⟩ | ⟨hc, h⟩
    ·refine OpsR.setB (t := 40) rfl hc ?_
     refine oc ?_
     refine S.on rfl ?_
     refine S.faddrP rfl rfl ?_
     refine oc ?_
     refine S.on rfl ?_
     refine S.loadP rfl rfl rfl ?_
     refine oc ?_
     refine S.on rfl ?_
     refine S.move rfl ?_
     obtain ⟨x7, hx, h⟩ := lt_some h
     refine OpsR.splitAt 4 (J := fun st => Is [(40, .bool true), (47, .bool x7)] [] st) ?_ ?_
     ·replace h := hx
      rcases itep h with ⟨hc, h⟩ | ⟨hc, h⟩
      ·refine OpsR.setB (t := 43) rfl hc ?_
       refine oc ?_
       refine S.on rfl ?_
       refine S.faddrP rfl rfl ?_
       refine oc ?_
       refine S.on rfl ?_
       refine S.loadP rfl rfl rfl ?_
       refine oc ?_
       refine S.on rfl ?_
       refine S.eqlSM rfl rfl ?_
       refine oc ?_
       refine S.on rfl ?_
       refine S.pick rfl rfl rfl rfl ?_
       obtain rfl := some_inj h
       refine oz ?_
       exact ⟨⟨rfl, rfl, trivial⟩, trivial⟩
      ·refine OpsR.setB (t := 43) rfl hc ?_
       refine oc ?_
       refine S.off rfl (by decide) ?_
       refine oc ?_
       refine S.off rfl (by decide) ?_
       refine oc ?_
       refine S.off rfl (by decide) ?_
       refine oc ?_
       refine S.on rfl ?_
       refine S.pick rfl rfl rfl rfl ?_
       obtain rfl := some_inj h
       refine oz ?_
       exact ⟨⟨rfl, rfl, trivial⟩, trivial⟩
     ·rintro st hI
      have hI : Is _ _ _ := hI
      revert hI
      refine fun hI => hI.elim ?_
      intro e H
      refine oc ?_
      refine S.on rfl ?_
      refine S.not rfl rfl ?_
      refine oc ?_
      refine S.pick rfl rfl rfl rfl ?_
      obtain rfl := some_inj h
      refine oz ?_
      exact ⟨⟨rfl, trivial⟩, trivial⟩
    ·refine OpsR.setB (t := 40) rfl hc ?_
     refine oc ?_
     refine S.off rfl (by decide) ?_
     refine oc ?_
     refine S.off rfl (by decide) ?_
     refine oc ?_
     refine S.off rfl (by decide) ?_
     refine oc ?_
     refine S.offN rfl ?_
     refine oc ?_
     refine S.offN rfl ?_
     refine oc ?_
     refine S.offN rfl ?_
     refine oc ?_
     refine S.off rfl (by decide) ?_
     refine oc ?_
     refine S.off rfl (by decide) ?_
     refine oc ?_
     refine S.pick rfl rfl rfl rfl ?_
     obtain rfl := some_inj h
     refine oz ?_
     exact ⟨⟨rfl, trivial⟩, trivial⟩
   ·rintro st hI
    have hI : Is _ _ _ := hI
    revert hI
    refine fun hI => hI.elim ?_
    intro e H
    refine oc ?_
    refine S.move rfl ?_
    refine oz ?_
    refine Run.ret ?_
    obtain rfl := some_inj h
    exact FinS.fin (End.tmp rfl rfl rfl)

theorem r35 (a0 : T_whole_Int) (r : Bool) (h : whole_Int_Neg a0 = some r) : Fn Try.prog 35 [.agg (c_whole_Int a0)] (.bool r) := by
 unfold whole_Int_Neg at h
 refine Fn.ofS hm Try.func35 t35 (Nat.le_of_ble_eq_true rfl) ?_
 refine rs ?_
 refine ro ?_
 refine oc ?_
 refine S.box rfl rfl rfl rfl ?_
 refine oc ?_
 refine S.move rfl ?_
 refine oz ?_
 refine rs ?_
 refine ro ?_
 refine oc ?_
 refine S.faddrP rfl rfl ?_
 refine oc ?_
 refine S.loadP rfl rfl rfl ?_
 refine oc ?_
 refine S.move rfl ?_
 refine oz ?_
 refine Run.ret ?_
 obtain rfl := some_inj h
 exact FinS.fin (End.tmp rfl rfl rfl)

theorem r53 (a0 : T_nat_Nat) (r : Bool) (h : nat_Nat_Zero a0 = some r) : Fn Try.prog 53 [.agg (c_nat_Nat a0)] (.bool r) := by
 unfold nat_Nat_Zero at h
 refine Fn.ofS hm Try.func53 t53 (Nat.le_of_ble_eq_true rfl) ?_
 refine rs ?_
 refine ro ?_
 refine oc ?_
 refine S.box rfl rfl rfl rfl ?_
 refine oc ?_
 refine S.move rfl ?_
 refine oz ?_
 refine rs ?_
 refine ro ?_
 refine oc ?_
 refine S.faddrP rfl rfl ?_
 refine oc ?_
 refine S.loadP rfl rfl rfl ?_
 refine oc ?_
 refine S.lenLM rfl ?_
 refine oc ?_
 refine S.eql rfl rfl rfl ?_
 refine oc ?_
 refine S.move rfl ?_
 refine oz ?_
 refine Run.ret ?_
 obtain rfl := some_inj h
 exact FinS.fin (End.tmp rfl rfl rfl)

theorem r58 (a0 : List Int) (r : T_nat_Nat) (h : nat_trim a0 = some r) : Fn Try.prog 58 [.sl (List.map c_u32 a0)] (.agg (c_nat_Nat r)) := by
 unfold nat_trim at h
 refine Fn.ofS hm Try.func58 t58 (Nat.le_of_ble_eq_true rfl) ?_
 refine rs ?_
 refine ro ?_
 refine oc ?_
 refine S.alloc rfl ?_
 refine oz ?_
 refine rs ?_
 refine Run.block ?_
 obtain ⟨x5, hx, h⟩ := bnd_some h
 refine Run.iter (I := (fun (s : List Int) (st : St) => ∃ g2 : Nat, Is [(0, .sl (List.map c_u32 s)), (2, .ptr 2 g2 0)] [(2, g2, some (.box [.nil]))] st)) (X := (XOne (.exit 0) (fun (x : List Int) (st : St) => ∃ g2 : Nat, Is [(0, .sl (List.map c_u32 x)), (2, .ptr 2 g2 0)] [(2, g2, some (.box [.nil]))] st))) hx ?_ ?_ ?_
 ·exact ⟨_, ⟨rfl, rfl, trivial⟩, ⟨rfl, trivial⟩⟩
 ·rintro s1 st ⟨g2, hI⟩ o h
  have hI : Is _ _ _ := hI
  revert hI
  refine fun hI => hI.elim ?_
  intro e H
  refine rs ?_
  refine rs ?_
  refine ro ?_
  refine oc ?_
  refine S.move rfl ?_
  refine oc ?_
  refine S.lenLM rfl ?_
  refine oc ?_
  refine S.gtr rfl rfl rfl ?_
  refine oc ?_
  refine S.move rfl ?_
  obtain ⟨x3, hx, h⟩ := bnd_some h
  refine OpsR.splitAt 8 (J := fun st => ∃ g2 : Nat, Is [(0, .sl (List.map c_u32 s1)), (2, .ptr 2 g2 0), (14, .bool x3)] [(2, g2, some (.box [.nil]))] st) ?_ ?_
  ·replace h := hx
   rcases ite_some h with ⟨hc, h⟩ | ⟨hc, h⟩
   ·refine OpsR.setB (t := 6) rfl hc ?_
    refine oc ?_
    refine S.on rfl ?_
    refine S.move rfl ?_
    refine oc ?_
    refine S.on rfl ?_
    refine S.move rfl ?_
    refine oc ?_
    refine S.on rfl ?_
    refine S.lenLM rfl ?_
    refine oc ?_
    refine S.on rfl ?_
    refine S.sub rfl rfl rfl ?_
    obtain ⟨v2, h_v2, h⟩ := bnd_some h
    refine oc ?_
    refine S.on rfl ?_
    refine S.iaddrLM (c := c_u32) rfl rfl h_v2 (fun _ => rfl) ?_
    refine oc ?_
    refine S.on rfl ?_
    refine S.loadC rfl rfl ?_
    refine oc ?_
    refine S.on rfl ?_
    refine S.eql rfl rfl rfl ?_
    refine oc ?_
    refine S.pick rfl rfl rfl rfl ?_
    obtain rfl := some_inj h
    refine oz ?_
    exact ⟨_, ⟨rfl, rfl, rfl, trivial⟩, ⟨rfl, trivial⟩⟩
   ·refine OpsR.setB (t := 6) rfl hc ?_
    refine oc ?_
    refine S.off rfl (by decide) ?_
    refine oc ?_
    refine S.off rfl (by decide) ?_
    refine oc ?_
    refine S.off rfl (by decide) ?_
    refine oc ?_
    refine S.off rfl (by decide) ?_
    refine oc ?_
    refine S.off rfl (by decide) ?_
    refine oc ?_
    refine S.off rfl (by decide) ?_
    refine oc ?_
    refine S.off rfl (by decide) ?_
    refine oc ?_
    refine S.pick rfl rfl rfl rfl ?_
    obtain rfl := some_inj h
    refine oz ?_
    exact ⟨_, ⟨rfl, rfl, rfl, trivial⟩, ⟨rfl, trivial⟩⟩
  ·rintro st ⟨g2, hI⟩
   have hI : Is _ _ _ := hI
   revert hI
   refine fun hI => hI.elim ?_
   intro e H
   refine oz ?_
   rcases ite_some h with ⟨hc, h⟩ | ⟨hc, h⟩
   ·refine Run.setB (t := 14) rfl hc ?_
    refine Run.condT rfl ?_
    refine Run.skip ?_
    refine Run.block ?_
    refine ro ?_
    refine oc ?_
    refine S.move rfl ?_
    refine oc ?_
    refine S.move rfl ?_
    refine oc ?_
    refine S.lenLM rfl ?_
    refine oc ?_
    refine S.sub rfl rfl rfl ?_
    obtain ⟨v4, h_v4, h⟩ := bnd_some h
    refine oc ?_
    refine S.sliceLFT (c := c_u32) rfl (And.intro rfl rfl) (fun _ => rfl) rfl h_v4 ?_
    refine oc ?_
    refine S.move rfl ?_
    refine oz ?_
    obtain rfl := some_inj h
    refine LoopPost.next ?_
    exact Leaf.done ⟨_, ⟨rfl, rfl, trivial⟩, ⟨rfl, trivial⟩⟩
   ·refine Run.setB (t := 14) rfl hc ?_
    refine Run.condF rfl ?_
    refine Run.exit ?_
    obtain rfl := some_inj h
    refine LoopPost.out nofun ?_
    exact Leaf.done (XOne.mk ⟨_, ⟨rfl, rfl, trivial⟩, ⟨rfl, trivial⟩⟩)
 ·intro e0 st0 hX
  rcases hX with ⟨hX⟩
  obtain ⟨g2, hI⟩ := hX
  revert hI
  refine fun hI => hI.elim ?_
  intro e H
  refine rs ?_
  refine ro ?_
  refine oc ?_
  refine S.move rfl ?_
  refine oc ?_
  refine S.build (And.intro rfl rfl) (And.intro rfl (And.intro rfl (And.intro (Nat.le_of_ble_eq_true rfl) rfl))) ?_
  refine oc ?_
  refine S.storeP rfl rfl rfl rfl rfl rfl (Nat.le_of_ble_eq_true rfl) rfl ?_
  refine oz ?_
  refine Run.ret ?_
  obtain rfl := some_inj h
  exact FinS.fin (End.cell rfl rfl rfl rfl rfl)

theorem r59 (a0 : T_nat_Nat) (a1 : Int) (r : T_nat_Nat × Int) (h : nat_Nat_small a0 a1 = some r) : Fn Try.prog 59 [.agg (c_nat_Nat a0), .int .u32 a1] (.tup [.agg (c_nat_Nat r.1), .int .u32 r.2]) := by
 unfold nat_Nat_small at h
 refine Fn.ofS hm Try.func59 t59 (Nat.le_of_ble_eq_true rfl) ?_
 refine rs ?_
 refine ro ?_
 refine oc ?_
 refine S.box rfl rfl rfl rfl ?_
 refine oc ?_
 refine S.alloc rfl ?_
 refine oc ?_
 refine S.move rfl ?_
 refine oz ?_
 refine rs ?_
 refine ro ?_
 refine oc ?_
 refine S.faddrP rfl rfl ?_
 refine oc ?_
 refine S.loadP rfl rfl rfl ?_
 refine oc ?_
 refine S.lenLM rfl ?_
 obtain ⟨v1, h_v1, h⟩ := bnd_some h
 refine oc ?_
 refine S.mkSlM (c := c_u32) rfl rfl h_v1 rfl rfl ?_
 refine oc ?_
 refine S.move rfl ?_
 refine oz ?_
 refine rs ?_
 refine ro ?_
 refine oc ?_
 refine S.move rfl ?_
 refine oz ?_
 refine rs ?_
 refine rs ?_
 refine ro ?_
 refine oc ?_
 refine S.faddrP rfl rfl ?_
 refine oc ?_
 refine S.loadP rfl rfl rfl ?_
 refine oc ?_
 refine S.lenLM rfl ?_
 refine oc ?_
 refine S.sub rfl rfl rfl ?_
 refine oc ?_
 refine S.move rfl ?_
 refine oz ?_
 refine Run.cutJ (J := fun st => ∃ g2 g4 g13 : Nat, Is [(1, .int .u32 a1), (2, .ptr 2 g2 0), (4, .ptr 4 g4 0), (6, .view 13 g13 1 (List.map c_u32 v1).length), (7, .int .u64 0), (8, .int .i64 (wrap .i64 ((a0.length : Int) - 1)))] [(2, g2, some (.box [.sl (List.map c_u32 a0)])), (4, g4, some (.box [.nil])), (13, g13, some (.arr 83 1 (List.map c_u32 v1)))] st) ⟨_, _, _, ⟨rfl, rfl, rfl, rfl, rfl, rfl, trivial⟩, ⟨rfl, rfl, rfl, trivial⟩⟩ ?_
 rintro st ⟨g2, g4, g13, hI⟩
 have hI : Is _ _ _ := hI
 revert hI
 refine fun hI => hI.elim ?_
 intro e H
 refine Run.block ?_
 obtain ⟨x7, hx, h⟩ := bnd_some h
 refine Run.iter (I := (fun (s : Int × Int × List Int) (st : St) => ∃ g2 g4 g13 : Nat, Is [(1, .int .u32 a1), (2, .ptr 2 g2 0), (4, .ptr 4 g4 0), (6, .view 13 g13 1 (List.map c_u32 s.2.2).length), (7, .int .u64 s.1), (8, .int .i64 s.2.1)] [(2, g2, some (.box [.sl (List.map c_u32 a0)])), (4, g4, some (.box [.nil])), (13, g13, some (.arr 83 1 (List.map c_u32 s.2.2)))] st)) (X := (XOne (.exit 0) (fun (x : Int × List Int) (st : St) => ∃ g4 g13 : Nat, Is [(4, .ptr 4 g4 0), (6, .view 13 g13 1 (List.map c_u32 x.2).length), (7, .int .u64 x.1)] [(4, g4, some (.box [.nil])), (13, g13, some (.arr 83 1 (List.map c_u32 x.2)))] st))) hx ?_ ?_ ?_
 ·exact ⟨_, _, _, ⟨rfl, rfl, rfl, rfl, rfl, rfl, trivial⟩, ⟨rfl, rfl, rfl, trivial⟩⟩
 ·rintro s2 st ⟨g2, g4, g13, hI⟩ o h
  have hI : Is _ _ _ := hI
  revert hI
  refine fun hI => hI.elim ?_
  intro e H
  refine rs ?_
  refine rs ?_
  refine ro ?_
  refine oc ?_
  refine S.move rfl ?_
  refine oc ?_
  refine S.geq rfl rfl rfl ?_
  refine oz ?_
  rcases ite_some h with ⟨hc, h⟩ | ⟨hc, h⟩
  ·refine Run.setB (t := 19) rfl hc ?_
   refine Run.condT rfl ?_
   refine Run.skip ?_
   refine rs ?_
   refine Run.block ?_
   refine rs ?_
   refine ro ?_
   refine oc ?_
   refine S.move rfl ?_
   refine oc ?_
   refine S.shl rfl rfl (by decide) rfl ?_
   refine oc ?_
   refine S.faddrP rfl rfl ?_
   refine oc ?_
   refine S.loadP rfl rfl rfl ?_
   refine oc ?_
   refine S.move rfl ?_
   obtain ⟨v3, h_v3, h⟩ := bnd_some h
   refine oc ?_
   refine S.iaddrLM (c := c_u32) rfl rfl h_v3 (fun _ => rfl) ?_
   refine oc ?_
   refine S.loadC rfl rfl ?_
   refine oc ?_
   refine S.toInt rfl rfl ?_
   refine oc ?_
   refine S.or rfl rfl rfl ?_
   refine oc ?_
   refine S.move rfl ?_
   refine oz ?_
   refine Run.cutJ (J := fun st => ∃ g2 g4 g13 : Nat, Is [(1, .int .u32 a1), (2, .ptr 2 g2 0), (4, .ptr 4 g4 0), (6, .view 13 g13 1 (List.map c_u32 s2.2.2).length), (8, .int .i64 s2.2.1), (9, .int .u64 (bor .u64 (shl .u64 s2.1 32) (wrap .u64 v3)))] [(2, g2, some (.box [.sl (List.map c_u32 a0)])), (4, g4, some (.box [.nil])), (13, g13, some (.arr 83 1 (List.map c_u32 s2.2.2)))] st) ⟨_, _, _, ⟨rfl, rfl, rfl, rfl, rfl, rfl, trivial⟩, ⟨rfl, rfl, rfl, trivial⟩⟩ ?_
   rintro st ⟨g2, g4, g13, hI⟩
   have hI : Is _ _ _ := hI
   revert hI
   refine fun hI => hI.elim ?_
   intro e H
   refine Run.drawn ?_
   refine d0 rfl ?_
   refine S.move rfl ?_
   refine d0 rfl ?_
   refine S.move rfl ?_
   refine d0 rfl ?_
   refine S.move rfl ?_
   refine d0 rfl ?_
   refine S.move rfl ?_
   refine d0 rfl ?_
   refine S.toInt rfl rfl ?_
   obtain ⟨v4, h_v4, h⟩ := bnd_some h
   refine d0 rfl ?_
   refine S.quo rfl rfl (chk_some h_v4) rfl ?_
   refine d0 rfl ?_
   refine S.toInt rfl rfl ?_
   refine d0 rfl ?_
   refine S.move rfl ?_
   refine d0 rfl ?_
   refine S.move rfl ?_
   refine d0 rfl ?_
   refine S.toInt rfl rfl ?_
   obtain ⟨v5, h_v5, h⟩ := bnd_some h
   refine d0 rfl ?_
   refine S.rem rfl rfl (chk_some h_v5) rfl ?_
   obtain ⟨v6, h_v6, h⟩ := bnd_some h
   refine d0 rfl ?_
   refine S.iaddrVM (c := c_u32) rfl rfl (put_in h_v6) ?_
   refine d1 (x := (_, _)) rfl rfl ?_
   refine S.putM rfl rfl rfl rfl rfl rfl (by decide) (put_at h_v6) (fun _ => rfl) ?_
   refine DrawR.retell (t := 6) rfl (lenPut c_u32 (put_at h_v6)) ?_
   refine d0 rfl ?_
   refine S.move rfl ?_
   refine DrawR.nil ?_
   refine Run.cutJ (J := fun st => ∃ g2 g4 g13 : Nat, Is [(1, .int .u32 a1), (2, .ptr 2 g2 0), (4, .ptr 4 g4 0), (6, .view 13 g13 1 (List.map c_u32 v6).length), (7, .int .u64 (Int.tmod (bor .u64 (shl .u64 s2.1 32) (wrap .u64 v3)) (wrap .u64 a1))), (8, .int .i64 s2.2.1)] [(2, g2, some (.box [.sl (List.map c_u32 a0)])), (4, g4, some (.box [.nil])), (13, g13, some (.arr 83 1 (List.map c_u32 v6)))] st) ⟨_, _, _, ⟨rfl, rfl, rfl, rfl, rfl, rfl, trivial⟩, ⟨rfl, rfl, rfl, trivial⟩⟩ ?_
   rintro st ⟨g2, g4, g13, hI⟩
   have hI : Is _ _ _ := hI
   revert hI
   refine fun hI => hI.elim ?_
   intro e H
   refine ro ?_
   refine oc ?_
   refine S.move rfl ?_
   refine oc ?_
   refine S.sub rfl rfl rfl ?_
   refine oc ?_
   refine S.move rfl ?_
   refine oz ?_
   obtain rfl := some_inj h
   refine LoopPost.next ?_
   exact Leaf.done ⟨_, _, _, ⟨rfl, rfl, rfl, rfl, rfl, rfl, trivial⟩, ⟨rfl, rfl, rfl, trivial⟩⟩
  ·refine Run.setB (t := 19) rfl hc ?_
   refine Run.condF rfl ?_
   refine Run.exit ?_
   obtain rfl := some_inj h
   refine LoopPost.out nofun ?_
   exact Leaf.done (XOne.mk ⟨_, _, ⟨rfl, rfl, rfl, trivial⟩, ⟨rfl, rfl, trivial⟩⟩)
 ·intro e0 st0 hX
  rcases hX with ⟨hX⟩
  obtain ⟨g4, g13, hI⟩ := hX
  revert hI
  refine fun hI => hI.elim ?_
  intro e H
  refine rs ?_
  refine ro ?_
  refine oc ?_
  refine S.move rfl ?_
  obtain ⟨v8, h_v8, h⟩ := bnd_some h
  refine oc ?_
  refine S.call (And.intro rfl (And.intro rfl (And.intro rfl (And.intro rfl rfl)))) (r58 x7.2 _ h_v8) rfl ?_
  refine oc ?_
  refine S.move rfl ?_
  refine oc ?_
  refine S.toInt rfl rfl ?_
  refine oc ?_
  refine S.storeP rfl rfl rfl rfl rfl rfl (Nat.le_of_ble_eq_true rfl) rfl ?_
  refine oc ?_
  refine S.move rfl ?_
  refine oz ?_
  refine Run.ret ?_
  obtain rfl := some_inj h
  exact FinS.fin (End.all (And.intro rfl rfl))

theorem r36 (a0 : T_nat_Nat) (r : Str) (h : nat_Nat_Text a0 = some r) : Fn Try.prog 36 [.agg (c_nat_Nat a0)] (.str (bs r)) := by
 unfold nat_Nat_Text at h
 refine Fn.ofS hm Try.func36 t36 (Nat.le_of_ble_eq_true rfl) ?_
 refine rs ?_
 refine ro ?_
 refine oc ?_
 refine S.box rfl rfl rfl rfl ?_
 refine oc ?_
 refine S.move rfl ?_
 refine oz ?_
 refine rs ?_
 refine rs ?_
 refine ro ?_
 refine oc ?_
 refine S.faddrP rfl rfl ?_
 refine oc ?_
 refine S.loadP rfl rfl rfl ?_
 refine oc ?_
 refine S.lenLM rfl ?_
 refine oc ?_
 refine S.eql rfl rfl rfl ?_
 refine oz ?_
 rcases ite_some h with ⟨hc, h⟩ | ⟨hc, h⟩
 ·refine Run.setB (t := 12) rfl hc ?_
  refine Run.condT rfl ?_
  refine rs ?_
  refine ro ?_
  refine oc ?_
  refine S.move rfl ?_
  refine oz ?_
  refine Run.ret ?_
  obtain rfl := some_inj h
  exact FinS.fin (End.tmp rfl rfl rfl)
 ·refine Run.setB (t := 12) rfl hc ?_
  refine Run.condF rfl ?_
  refine Run.skip ?_
  refine rs ?_
  refine ro ?_
  refine oc ?_
  refine S.move rfl ?_
  refine oz ?_
  refine rs ?_
  refine Run.block ?_
  refine Run.ghost (Ghost.nilViewSlot (d := 3) (s := 40) (t := 5) (sz := 1) rfl) ?_
  obtain ⟨x10, hx, h⟩ := bnd_some h
  refine Run.iter (I := (fun (s : List Int × List Int) (st : St) => ∃ g1 g40 : Nat, Is [(1, .ptr 1 g1 0), (3, .view 40 g40 1 (List.map c_u8 s.2).length)] [(1, g1, some (.box [.sl (List.map c_u32 s.1)])), (40, g40, some (.arr 5 1 (List.map c_u8 s.2)))] st)) (X := (XOne (.exit 0) (fun (x : List Int) (st : St) => ∃ g40 : Nat, Is [(3, .view 40 g40 1 (List.map c_u8 x).length)] [(40, g40, some (.arr 5 1 (List.map c_u8 x)))] st))) hx ?_ ?_ ?_
  ·exact ⟨_, _, ⟨rfl, rfl, trivial⟩, ⟨rfl, rfl, trivial⟩⟩
  ·rintro s1 st ⟨g1, g40, hI⟩ o h
   have hI : Is _ _ _ := hI
   revert hI
   refine fun hI => hI.elim ?_
   intro e H
   refine rs ?_
   refine rs ?_
   refine ro ?_
   refine oc ?_
   refine S.loadP rfl rfl rfl ?_
   obtain ⟨v2, h_v2, h⟩ := bnd_some h
   refine oc ?_
   refine S.call (And.intro rfl rfl) (r53 s1.1 _ h_v2) rfl ?_
   refine oc ?_
   refine S.not rfl rfl ?_
   refine oz ?_
   rcases ite_some h with ⟨hc, h⟩ | ⟨hc, h⟩
   ·refine Run.setB (t := 15) rfl hc ?_
    refine Run.condT rfl ?_
    refine Run.skip ?_
    refine Run.block ?_
    refine rs ?_
    refine ro ?_
    refine oc ?_
    refine S.loadP rfl rfl rfl ?_
    obtain ⟨v3, h_v3, h⟩ := bnd_some h
    refine oc ?_
    refine S.call (And.intro rfl rfl) (r59 s1.1 1000000000 _ h_v3) rfl ?_
    refine oc ?_
    refine S.move rfl ?_
    refine oc ?_
    refine S.extract rfl rfl ?_
    refine oc ?_
    refine S.extract rfl rfl ?_
    refine oc ?_
    refine S.alloc rfl ?_
    refine oc ?_
    refine S.storeP rfl rfl rfl rfl rfl rfl (Nat.le_of_ble_eq_true rfl) rfl ?_
    refine oc ?_
    refine S.move rfl ?_
    refine oz ?_
    refine Run.cutJ (J := fun st => ∃ g1 g4 g40 : Nat, Is [(1, .ptr 1 g1 0), (3, .view 40 g40 1 (List.map c_u8 s1.2).length), (4, .ptr 4 g4 0), (5, .int .u32 v3.2)] [(1, g1, some (.box [.sl (List.map c_u32 s1.1)])), (4, g4, some (.box [.sl (List.map c_u32 v3.1)])), (40, g40, some (.arr 5 1 (List.map c_u8 s1.2)))] st) ⟨_, _, _, ⟨rfl, rfl, rfl, rfl, trivial⟩, ⟨rfl, rfl, rfl, trivial⟩⟩ ?_
    rintro st ⟨g1, g4, g40, hI⟩
    have hI : Is _ _ _ := hI
    revert hI
    refine fun hI => hI.elim ?_
    intro e H
    refine rs ?_
    refine rs ?_
    refine ro ?_
    refine oc ?_
    refine S.move rfl ?_
    refine oz ?_
    refine Run.block ?_
    obtain ⟨x9, hx, h⟩ := bnd_some h
    refine Run.iter (I := (fun (s : Int × Int × List Int) (st : St) => ∃ g1 g4 g40 : Nat, Is [(1, .ptr 1 g1 0), (3, .view 40 g40 1 (List.map c_u8 s.2.2).length), (4, .ptr 4 g4 0), (5, .int .u32 s.1), (6, .int .i64 s.2.1)] [(1, g1, some (.box [.sl (List.map c_u32 s1.1)])), (4, g4, some (.box [.sl (List.map c_u32 v3.1)])), (40, g40, some (.arr 5 1 (List.map c_u8 s.2.2)))] st)) (X := (XOne (.exit 2) (fun (x : List Int) (st : St) => ∃ g1 g4 g40 : Nat, Is [(1, .ptr 1 g1 0), (3, .view 40 g40 1 (List.map c_u8 x).length), (4, .ptr 4 g4 0)] [(1, g1, some (.box [.sl (List.map c_u32 s1.1)])), (4, g4, some (.box [.sl (List.map c_u32 v3.1)])), (40, g40, some (.arr 5 1 (List.map c_u8 x)))] st))) hx ?_ ?_ ?_
    ·exact ⟨_, _, _, ⟨rfl, rfl, rfl, rfl, rfl, trivial⟩, ⟨rfl, rfl, rfl, trivial⟩⟩
    ·rintro s4 st ⟨g1, g4, g40, hI⟩ o h
     have hI : Is _ _ _ := hI
     revert hI
     refine fun hI => hI.elim ?_
     intro e H
     refine rs ?_
     refine rs ?_
     refine ro ?_
     refine oc ?_
     refine S.move rfl ?_
     refine oc ?_
     refine S.lss rfl rfl rfl ?_
     refine oc ?_
     refine S.move rfl ?_
     obtain ⟨x7, hx, h⟩ := bnd_some h
     refine OpsR.splitAt 8 (J := fun st => ∃ g1 g4 g40 : Nat, Is [(1, .ptr 1 g1 0), (3, .view 40 g40 1 (List.map c_u8 s4.2.2).length), (4, .ptr 4 g4 0), (5, .int .u32 s4.1), (6, .int .i64 s4.2.1), (31, .bool x7)] [(1, g1, some (.box [.sl (List.map c_u32 s1.1)])), (4, g4, some (.box [.sl (List.map c_u32 v3.1)])), (40, g40, some (.arr 5 1 (List.map c_u8 s4.2.2)))] st) ?_ ?_
     ·replace h := hx
      rcases ite_some h with ⟨hc, h⟩ | ⟨hc, h⟩
      ·refine OpsR.setB (t := 23) rfl hc ?_
       refine oc ?_
       refine S.on rfl ?_
       refine S.move rfl ?_
       refine oc ?_
       refine S.on rfl ?_
       refine S.gtr rfl rfl rfl ?_
       refine oc ?_
       refine S.on rfl ?_
       refine S.move rfl ?_
       obtain ⟨x6, hx, h⟩ := bnd_some h
       refine OpsR.splitAt 4 (J := fun st => ∃ g1 g4 g40 : Nat, Is [(1, .ptr 1 g1 0), (3, .view 40 g40 1 (List.map c_u8 s4.2.2).length), (4, .ptr 4 g4 0), (5, .int .u32 s4.1), (6, .int .i64 s4.2.1), (23, .bool true), (30, .bool x6)] [(1, g1, some (.box [.sl (List.map c_u32 s1.1)])), (4, g4, some (.box [.sl (List.map c_u32 v3.1)])), (40, g40, some (.arr 5 1 (List.map c_u8 s4.2.2)))] st) ?_ ?_
       ·replace h := hx
        rcases ite_some h with ⟨hc, h⟩ | ⟨hc, h⟩
        ·refine OpsR.setB (t := 26) rfl hc ?_
         refine oc ?_
         refine S.off rfl (by decide) ?_
         refine oc ?_
         refine S.off rfl (by decide) ?_
         refine oc ?_
         refine S.off rfl (by decide) ?_
         refine oc ?_
         refine S.on rfl ?_
         refine S.pick rfl rfl rfl rfl ?_
         obtain rfl := some_inj h
         refine oz ?_
         exact ⟨_, _, _, ⟨rfl, rfl, rfl, rfl, rfl, rfl, rfl, trivial⟩, ⟨rfl, rfl, rfl, trivial⟩⟩
        ·refine OpsR.setB (t := 26) rfl hc ?_
         refine oc ?_
         refine S.on rfl ?_
         refine S.loadP rfl rfl rfl ?_
         obtain ⟨v5, h_v5, h⟩ := bnd_some h
         refine oc ?_
         refine S.on rfl ?_
         refine S.call (And.intro rfl rfl) (r53 v3.1 _ h_v5) rfl ?_
         refine oc ?_
         refine S.on rfl ?_
         refine S.not rfl rfl ?_
         refine oc ?_
         refine S.on rfl ?_
         refine S.pick rfl rfl rfl rfl ?_
         obtain rfl := some_inj h
         refine oz ?_
         exact ⟨_, _, _, ⟨rfl, rfl, rfl, rfl, rfl, rfl, rfl, trivial⟩, ⟨rfl, rfl, rfl, trivial⟩⟩
       ·rintro st ⟨g1, g4, g40, hI⟩
        have hI : Is _ _ _ := hI
        revert hI
        refine fun hI => hI.elim ?_
        intro e H
        refine oc ?_
        refine S.pick rfl rfl rfl rfl ?_
        obtain rfl := some_inj h
        refine oz ?_
        exact ⟨_, _, _, ⟨rfl, rfl, rfl, rfl, rfl, rfl, trivial⟩, ⟨rfl, rfl, rfl, trivial⟩⟩
      ·refine OpsR.setB (t := 23) rfl hc ?_
       refine oc ?_
       refine S.off rfl (by decide) ?_
       refine oc ?_
       refine S.off rfl (by decide) ?_
       refine oc ?_
       refine S.off rfl (by decide) ?_
       refine oc ?_
       refine S.offN rfl ?_
       refine oc ?_
       refine S.offN rfl ?_
       refine oc ?_
       refine S.offN rfl ?_
       refine oc ?_
       refine S.off rfl (by decide) ?_
       refine oc ?_
       refine S.pick rfl rfl rfl rfl ?_
       obtain rfl := some_inj h
       refine oz ?_
       exact ⟨_, _, _, ⟨rfl, rfl, rfl, rfl, rfl, rfl, trivial⟩, ⟨rfl, rfl, rfl, trivial⟩⟩
     ·rintro st ⟨g1, g4, g40, hI⟩
      have hI : Is _ _ _ := hI
      revert hI
      refine fun hI => hI.elim ?_
      intro e H
      refine oz ?_
      rcases ite_some h with ⟨hc, h⟩ | ⟨hc, h⟩
      ·refine Run.setB (t := 31) rfl hc ?_
       refine Run.condT rfl ?_
       refine Run.skip ?_
       refine rs ?_
       refine Run.block ?_
       refine rs ?_
       refine ro ?_
       refine oc ?_
       refine S.move rfl ?_
       refine oc ?_
       refine S.move rfl ?_
       refine oc ?_
       refine S.rem rfl rfl (by decide) rfl ?_
       refine oc ?_
       refine S.add rfl rfl rfl ?_
       refine oc ?_
       refine S.toInt rfl rfl ?_
       refine oc ?_
       refine S.buildSlM (c := c_u8) (l := ([(wrap .u8 (wrap .u32 (48 + (Int.tmod s4.1 10))))] : List Int)) (And.intro rfl rfl) rfl rfl rfl ?_
       obtain ⟨v8, h_v8, h⟩ := bnd_some h
       refine oc ?_
       refine S.appVM (c := c_u8) rfl rfl rfl (And.intro rfl (And.intro rfl (And.intro rfl rfl))) (fun _ => rfl) h_v8 ?_
       refine oc ?_
       refine S.move rfl ?_
       refine oz ?_
       refine ro ?_
       refine oc ?_
       refine S.move rfl ?_
       refine oc ?_
       refine S.quo rfl rfl (by decide) rfl ?_
       refine oc ?_
       refine S.move rfl ?_
       refine oz ?_
       refine Run.cutJ (J := fun st => ∃ g1 g4 g40 : Nat, Is [(1, .ptr 1 g1 0), (3, .view 40 g40 1 (List.map c_u8 v8).length), (4, .ptr 4 g4 0), (5, .int .u32 (wrap .u32 (Int.tdiv s4.1 10))), (6, .int .i64 s4.2.1)] [(1, g1, some (.box [.sl (List.map c_u32 s1.1)])), (4, g4, some (.box [.sl (List.map c_u32 v3.1)])), (40, g40, some (.arr 5 1 (List.map c_u8 v8)))] st) ⟨_, _, _, ⟨rfl, rfl, rfl, rfl, rfl, trivial⟩, ⟨rfl, rfl, rfl, trivial⟩⟩ ?_
       rintro st ⟨g1, g4, g40, hI⟩
       have hI : Is _ _ _ := hI
       revert hI
       refine fun hI => hI.elim ?_
       intro e H
       refine ro ?_
       refine oc ?_
       refine S.move rfl ?_
       refine oc ?_
       refine S.add rfl rfl rfl ?_
       refine oc ?_
       refine S.move rfl ?_
       refine oz ?_
       obtain rfl := some_inj h
       refine LoopPost.next ?_
       exact Leaf.done ⟨_, _, _, ⟨rfl, rfl, rfl, rfl, rfl, trivial⟩, ⟨rfl, rfl, rfl, trivial⟩⟩
      ·refine Run.setB (t := 31) rfl hc ?_
       refine Run.condF rfl ?_
       refine Run.exit ?_
       obtain rfl := some_inj h
       refine LoopPost.out nofun ?_
       exact Leaf.done (XOne.mk ⟨_, _, _, ⟨rfl, rfl, rfl, trivial⟩, ⟨rfl, rfl, rfl, trivial⟩⟩)
    ·intro e0 st0 hX
     rcases hX with ⟨hX⟩
     obtain ⟨g1, g4, g40, hI⟩ := hX
     revert hI
     refine fun hI => hI.elim ?_
     intro e H
     refine ro ?_
     refine oc ?_
     refine S.loadP rfl rfl rfl ?_
     refine oc ?_
     refine S.storeP rfl rfl rfl rfl rfl rfl (Nat.le_of_ble_eq_true rfl) rfl ?_
     refine oz ?_
     obtain rfl := some_inj h
     refine LoopPost.next ?_
     exact Leaf.done ⟨_, _, ⟨rfl, rfl, trivial⟩, ⟨rfl, rfl, trivial⟩⟩
   ·refine Run.setB (t := 15) rfl hc ?_
    refine Run.condF rfl ?_
    refine Run.exit ?_
    obtain rfl := some_inj h
    refine LoopPost.out nofun ?_
    exact Leaf.done (XOne.mk ⟨_, ⟨rfl, trivial⟩, ⟨rfl, trivial⟩⟩)
  ·intro e0 st0 hX
   rcases hX with ⟨hX⟩
   obtain ⟨g40, hI⟩ := hX
   revert hI
   refine fun hI => hI.elim ?_
   intro e H
   refine rs ?_
   refine rs ?_
   refine ro ?_
   refine oc ?_
   refine S.move rfl ?_
   refine oc ?_
   refine S.lenVM rfl ?_
   refine oc ?_
   refine S.sub rfl rfl rfl ?_
   refine oc ?_
   refine S.move rfl ?_
   refine oc ?_
   refine S.move rfl ?_
   refine oz ?_
   refine Run.block ?_
   obtain ⟨x16, hx, h⟩ := bnd_some h
   refine Run.iter (I := (fun (s : Int × Int × List Int) (st : St) => ∃ g40 : Nat, Is [(3, .view 40 g40 1 (List.map c_u8 s.2.2).length), (7, .int .i64 s.1), (8, .int .i64 s.2.1)] [(40, g40, some (.arr 5 1 (List.map c_u8 s.2.2)))] st)) (X := (XOne (.exit 4) (fun (x : List Int) (st : St) => ∃ g40 : Nat, Is [(3, .view 40 g40 1 (List.map c_u8 x).length)] [(40, g40, some (.arr 5 1 (List.map c_u8 x)))] st))) hx ?_ ?_ ?_
   ·exact ⟨_, ⟨rfl, rfl, rfl, trivial⟩, ⟨rfl, trivial⟩⟩
   ·rintro s11 st ⟨g40, hI⟩ o h
    have hI : Is _ _ _ := hI
    revert hI
    refine fun hI => hI.elim ?_
    intro e H
    refine rs ?_
    refine rs ?_
    refine ro ?_
    refine oc ?_
    refine S.move rfl ?_
    refine oc ?_
    refine S.move rfl ?_
    refine oc ?_
    refine S.lss rfl rfl rfl ?_
    refine oz ?_
    rcases ite_some h with ⟨hc, h⟩ | ⟨hc, h⟩
    ·refine Run.setB (t := 49) rfl hc ?_
     refine Run.condT rfl ?_
     refine Run.skip ?_
     refine rs ?_
     refine Run.block ?_
     refine Run.drawn ?_
     refine d0 rfl ?_
     refine S.move rfl ?_
     refine d0 rfl ?_
     refine S.move rfl ?_
     refine d0 rfl ?_
     refine S.move rfl ?_
     refine d0 rfl ?_
     refine S.move rfl ?_
     refine d0 rfl ?_
     refine S.move rfl ?_
     refine d0 rfl ?_
     refine S.move rfl ?_
     obtain ⟨v12, h_v12, h⟩ := bnd_some h
     refine d0 rfl ?_
     refine S.iaddrVM (c := c_u8) rfl rfl (get_in h_v12) ?_
     refine d1 (x := (_, _)) rfl rfl ?_
     refine S.loadEM rfl rfl (get_at h_v12) rfl ?_
     refine d0 rfl ?_
     refine S.move rfl ?_
     refine d0 rfl ?_
     refine S.move rfl ?_
     obtain ⟨v13, h_v13, h⟩ := bnd_some h
     refine d0 rfl ?_
     refine S.iaddrVM (c := c_u8) rfl rfl (get_in h_v13) ?_
     refine d1 (x := (_, _)) rfl rfl ?_
     refine S.loadEM rfl rfl (get_at h_v13) rfl ?_
     obtain ⟨v14, h_v14, h⟩ := bnd_some h
     refine d0 rfl ?_
     refine S.iaddrVM (c := c_u8) rfl rfl (put_in h_v14) ?_
     refine d1 (x := (_, _)) rfl rfl ?_
     refine S.putM rfl rfl rfl rfl rfl rfl (by decide) (put_at h_v14) (fun _ => rfl) ?_
     refine DrawR.retell (t := 3) rfl (lenPut c_u8 (put_at h_v14)) ?_
     refine DrawR.retell (t := 56) rfl (lenPut c_u8 (put_at h_v14)) ?_
     obtain ⟨v15, h_v15, h⟩ := bnd_some h
     refine d0 rfl ?_
     refine S.iaddrVM (c := c_u8) rfl rfl (put_in h_v15) ?_
     refine d1 (x := (_, _)) rfl rfl ?_
     refine S.putM rfl rfl rfl rfl rfl rfl (by decide) (put_at h_v15) (fun _ => rfl) ?_
     refine DrawR.retell (t := 3) rfl (lenPut c_u8 (put_at h_v15)) ?_
     refine DrawR.nil ?_
     refine Run.cutJ (J := fun st => ∃ g40 : Nat, Is [(3, .view 40 g40 1 (List.map c_u8 v15).length), (7, .int .i64 s11.1), (8, .int .i64 s11.2.1)] [(40, g40, some (.arr 5 1 (List.map c_u8 v15)))] st) ⟨_, ⟨rfl, rfl, rfl, trivial⟩, ⟨rfl, trivial⟩⟩ ?_
     rintro st ⟨g40, hI⟩
     have hI : Is _ _ _ := hI
     revert hI
     refine fun hI => hI.elim ?_
     intro e H
     refine ro ?_
     refine oc ?_
     refine S.move rfl ?_
     refine oc ?_
     refine S.add rfl rfl rfl ?_
     refine oc ?_
     refine S.move rfl ?_
     refine oc ?_
     refine S.sub rfl rfl rfl ?_
     refine oc ?_
     refine S.move rfl ?_
     refine oc ?_
     refine S.move rfl ?_
     refine oz ?_
     obtain rfl := some_inj h
     refine LoopPost.next ?_
     exact Leaf.done ⟨_, ⟨rfl, rfl, rfl, trivial⟩, ⟨rfl, trivial⟩⟩
    ·refine Run.setB (t := 49) rfl hc ?_
     refine Run.condF rfl ?_
     refine Run.exit ?_
     obtain rfl := some_inj h
     refine LoopPost.out nofun ?_
     exact Leaf.done (XOne.mk ⟨_, ⟨rfl, trivial⟩, ⟨rfl, trivial⟩⟩)
   ·intro e0 st0 hX
    rcases hX with ⟨hX⟩
    obtain ⟨g40, hI⟩ := hX
    revert hI
    refine fun hI => hI.elim ?_
    intro e H
    refine rs ?_
    refine ro ?_
    refine oc ?_
    refine S.move rfl ?_
    refine oc ?_
    refine S.b2sM rfl (And.intro rfl (And.intro rfl (And.intro rfl rfl))) ?_
    refine oc ?_
    refine S.move rfl ?_
    refine oz ?_
    refine Run.ret ?_
    obtain rfl := some_inj h
    exact FinS.fin (End.tmp rfl rfl rfl)

theorem r33 (a0 : Int) (r : T_nat_Nat) (h : nat_Of a0 = some r) : Fn Try.prog 33 [.int .u64 a0] (.agg (c_nat_Nat r)) := by
 unfold nat_Of at h
 refine Fn.ofS hm Try.func33 t33 (Nat.le_of_ble_eq_true rfl) ?_
 refine rs ?_
 refine ro ?_
 refine oc ?_
 refine S.alloc rfl ?_
 refine oz ?_
 refine rs ?_
 refine ro ?_
 refine oc ?_
 refine S.move rfl ?_
 refine oc ?_
 refine S.toInt rfl rfl ?_
 refine oc ?_
 refine S.move rfl ?_
 refine oc ?_
 refine S.shr rfl rfl (by decide) rfl ?_
 refine oc ?_
 refine S.toInt rfl rfl ?_
 refine oc ?_
 refine S.buildSlM (c := c_u32) (l := ([(wrap .u32 a0), (wrap .u32 (shr .u64 a0 32))] : List Int)) (And.intro rfl rfl) rfl rfl rfl ?_
 obtain ⟨v1, h_v1, h⟩ := bnd_some h
 refine oc ?_
 refine S.call (And.intro rfl (And.intro rfl (And.intro rfl (And.intro rfl rfl)))) (r58 ([(wrap .u32 a0), (wrap .u32 (shr .u64 a0 32))] : List Int) _ h_v1) rfl ?_
 refine oc ?_
 refine S.storeP rfl rfl rfl rfl rfl rfl (Nat.le_of_ble_eq_true rfl) rfl ?_
 refine oz ?_
 refine Run.ret ?_
 obtain rfl := some_inj h
 exact FinS.fin (End.cell rfl rfl rfl rfl rfl)

theorem r37 (a0 : T_ratio_Rat) (r : T_nat_Nat) (h : ratio_Rat_down a0 = some r) : Fn Try.prog 37 [.agg (c_ratio_Rat a0)] (.agg (c_nat_Nat r)) := by
 unfold ratio_Rat_down at h
 refine Fn.ofS hm Try.func37 t37 (Nat.le_of_ble_eq_true rfl) ?_
 refine rs ?_
 refine ro ?_
 refine oc ?_
 refine S.box rfl rfl rfl rfl ?_
 refine oc ?_
 refine S.alloc rfl ?_
 refine oz ?_
 refine rs ?_
 refine rs ?_
 refine ro ?_
 refine oc ?_
 refine S.faddrP rfl rfl ?_
 refine oc ?_
 refine S.loadP rfl rfl rfl ?_
 obtain ⟨v1, h_v1, h⟩ := bnd_some h
 refine oc ?_
 refine S.call (And.intro rfl rfl) (r53 a0.2 _ h_v1) rfl ?_
 refine oz ?_
 rcases ite_some h with ⟨hc, h⟩ | ⟨hc, h⟩
 ·refine Run.setB (t := 5) rfl hc ?_
  refine Run.condT rfl ?_
  refine rs ?_
  refine ro ?_
  obtain ⟨v2, h_v2, h⟩ := bnd_some h
  refine oc ?_
  refine S.call (And.intro rfl rfl) (r33 1 _ h_v2) rfl ?_
  refine oc ?_
  refine S.storeP rfl rfl rfl rfl rfl rfl (Nat.le_of_ble_eq_true rfl) rfl ?_
  refine oz ?_
  refine Run.ret ?_
  obtain rfl := some_inj h
  exact FinS.fin (End.cell rfl rfl rfl rfl rfl)
 ·refine Run.setB (t := 5) rfl hc ?_
  refine Run.condF rfl ?_
  refine Run.skip ?_
  refine rs ?_
  refine ro ?_
  refine oc ?_
  refine S.faddrP rfl rfl ?_
  refine oc ?_
  refine S.loadP rfl rfl rfl ?_
  refine oc ?_
  refine S.storeP rfl rfl rfl rfl rfl rfl (Nat.le_of_ble_eq_true rfl) rfl ?_
  refine oz ?_
  refine Run.ret ?_
  obtain rfl := some_inj h
  exact FinS.fin (End.cell rfl rfl rfl rfl rfl)

theorem r16 (a0 : T_ratio_Rat) (r : T_api_Num) (h : ratio_Rat_Num a0 = some r) : Fn Try.prog 16 [.agg (c_ratio_Rat a0)] (.agg (c_api_Num r)) := by
 unfold ratio_Rat_Num at h
 refine Fn.ofS hm Try.func16 t16 (Nat.le_of_ble_eq_true rfl) ?_
 refine rs ?_
 refine ro ?_
 refine oc ?_
 refine S.box rfl rfl rfl rfl ?_
 refine oc ?_
 refine S.alloc rfl ?_
 refine oz ?_
 refine rs ?_
 refine Run.drawn ?_
 refine d0 rfl ?_
 refine S.faddrP rfl rfl ?_
 refine d1 (x := (_, _)) rfl rfl ?_
 refine S.loadP rfl rfl rfl ?_
 obtain ⟨v1, h_v1, h⟩ := bnd_some h
 refine d1 (x := (_, _)) rfl rfl ?_
 refine S.call (And.intro rfl rfl) (r35 a0.1 _ h_v1) rfl ?_
 refine d0 rfl ?_
 refine S.faddrP rfl rfl ?_
 refine d0 rfl ?_
 refine S.faddrP rfl rfl ?_
 refine d1 (x := (_, _)) rfl rfl ?_
 refine S.loadP rfl rfl rfl ?_
 obtain ⟨v2, h_v2, h⟩ := bnd_some h
 refine d1 (x := (_, _)) rfl rfl ?_
 refine S.call (And.intro rfl rfl) (r36 a0.1.1 _ h_v2) rfl ?_
 refine d1 (x := (_, _)) rfl rfl ?_
 refine S.loadP rfl rfl rfl ?_
 obtain ⟨v3, h_v3, h⟩ := bnd_some h
 refine d1 (x := (_, _)) rfl rfl ?_
 refine S.call (And.intro rfl rfl) (r37 a0 _ h_v3) rfl ?_
 obtain ⟨v4, h_v4, h⟩ := bnd_some h
 refine d1 (x := (_, _)) rfl rfl ?_
 refine S.call (And.intro rfl rfl) (r36 v3 _ h_v4) rfl ?_
 refine d0 rfl ?_
 refine S.build (And.intro rfl rfl) (And.intro rfl (And.intro rfl (And.intro (Nat.le_of_ble_eq_true rfl) (And.intro rfl (And.intro rfl (And.intro (Nat.le_of_ble_eq_true rfl) (And.intro rfl (And.intro rfl (And.intro (Nat.le_of_ble_eq_true rfl) rfl))))))))) ?_
 refine d1 (x := (_, _)) rfl rfl ?_
 refine S.storeP rfl rfl rfl rfl rfl rfl (Nat.le_of_ble_eq_true rfl) rfl ?_
 refine DrawR.nil ?_
 refine Run.cutJ (J := fun st => ∃ g2 : Nat, Is [(2, .ptr 2 g2 0)] [(2, g2, some (.box [.bool v1, .str (bs v2), .str (bs v4)]))] st) ⟨_, ⟨rfl, trivial⟩, ⟨rfl, trivial⟩⟩ ?_
 rintro st ⟨g2, hI⟩
 have hI : Is _ _ _ := hI
 revert hI
 refine fun hI => hI.elim ?_
 intro e H
 refine Run.ret ?_
 obtain rfl := some_inj h
 exact FinS.fin (End.cell rfl rfl rfl rfl rfl)

theorem r43 (a0 : Bool) (a1 : T_nat_Nat) (r : T_whole_Int) (h : whole_Of a0 a1 = some r) : Fn Try.prog 43 [.bool a0, .agg (c_nat_Nat a1)] (.agg (c_whole_Int r)) := by
 unfold whole_Of at h
 refine Fn.ofS hm Try.func43 t43 (Nat.le_of_ble_eq_true rfl) ?_
 refine rs ?_
 refine ro ?_
 refine oc ?_
 refine S.box rfl rfl rfl rfl ?_
 refine oc ?_
 refine S.alloc rfl ?_
 refine oz ?_
 refine rs ?_
 obtain ⟨x2, hx, h⟩ := bnd_some h
 refine Run.joinG (X := (XOne .normal (fun (x : Bool) (st : St) => ∃ g4 : Nat, Is [(4, .ptr 4 g4 0)] [(4, g4, some (.box [.sl (List.map c_u32 a1), .bool x]))] st))) (x := x2) ?_ ?_
 ·replace h := hx
  refine Run.drawn ?_
  refine d1 (x := (_, _)) rfl rfl ?_
  refine S.loadP rfl rfl rfl ?_
  refine d0 rfl ?_
  refine S.move rfl ?_
  refine d0 rfl ?_
  refine S.move rfl ?_
  rcases ite_some h with ⟨hc, h⟩ | ⟨hc, h⟩
  ·refine DrawR.setB (t := 7) rfl hc ?_
   refine d1 (x := (_, _)) rfl rfl ?_
   refine S.on rfl ?_
   refine S.loadP rfl rfl rfl ?_
   obtain ⟨v1, h_v1, h⟩ := bnd_some h
   refine d1 (x := (_, _)) rfl rfl ?_
   refine S.on rfl ?_
   refine S.call (And.intro rfl rfl) (r53 a1 _ h_v1) rfl ?_
   refine d0 rfl ?_
   refine S.on rfl ?_
   refine S.not rfl rfl ?_
   refine d0 rfl ?_
   refine S.pick rfl rfl rfl rfl ?_
   refine d0 rfl ?_
   refine S.build (And.intro rfl rfl) (And.intro rfl (And.intro rfl (And.intro (Nat.le_of_ble_eq_true rfl) (And.intro rfl (And.intro rfl (And.intro (Nat.le_of_ble_eq_true rfl) rfl)))))) ?_
   refine d1 (x := (_, _)) rfl rfl ?_
   refine S.storeP rfl rfl rfl rfl rfl rfl (Nat.le_of_ble_eq_true rfl) rfl ?_
   refine DrawR.nil ?_
   obtain rfl := some_inj h
   refine JP.mk ?_
   exact Leaf.done (XOne.mk ⟨_, ⟨rfl, trivial⟩, ⟨rfl, trivial⟩⟩)
  ·refine DrawR.setB (t := 7) rfl hc ?_
   refine d0 rfl ?_
   refine S.off rfl (by decide) ?_
   refine d0 rfl ?_
   refine S.off rfl (by decide) ?_
   refine d0 rfl ?_
   refine S.off rfl (by decide) ?_
   refine d0 rfl ?_
   refine S.pick rfl rfl rfl rfl ?_
   refine d0 rfl ?_
   refine S.build (And.intro rfl rfl) (And.intro rfl (And.intro rfl (And.intro (Nat.le_of_ble_eq_true rfl) (And.intro rfl (And.intro rfl (And.intro (Nat.le_of_ble_eq_true rfl) rfl)))))) ?_
   refine d1 (x := (_, _)) rfl rfl ?_
   refine S.storeP rfl rfl rfl rfl rfl rfl (Nat.le_of_ble_eq_true rfl) rfl ?_
   refine DrawR.nil ?_
   obtain rfl := some_inj h
   refine JP.mk ?_
   exact Leaf.done (XOne.mk ⟨_, ⟨rfl, trivial⟩, ⟨rfl, trivial⟩⟩)
 ·intro e0 st0 hX
  rcases hX with ⟨hX⟩
  obtain ⟨g4, hI⟩ := hX
  revert hI
  refine fun hI => hI.elim ?_
  intro e H
  refine Run.ret ?_
  obtain rfl := some_inj h
  exact FinS.fin (End.cell rfl rfl rfl rfl rfl)

theorem r52 (a0 : T_nat_Nat) (a1 : T_nat_Nat) (r : Int) (h : nat_Nat_Cmp a0 a1 = some r) : Fn Try.prog 52 [.agg (c_nat_Nat a0), .agg (c_nat_Nat a1)] (.int .i64 r) := by
 unfold nat_Nat_Cmp at h
 refine Fn.ofS hm Try.func52 t52 (Nat.le_of_ble_eq_true rfl) ?_
 refine rs ?_
 refine ro ?_
 refine oc ?_
 refine S.box rfl rfl rfl rfl ?_
 refine oc ?_
 refine S.box rfl rfl rfl rfl ?_
 refine oc ?_
 refine S.move rfl ?_
 refine oz ?_
 refine rs ?_
 refine rs ?_
 refine ro ?_
 refine oc ?_
 refine S.faddrP rfl rfl ?_
 refine oc ?_
 refine S.loadP rfl rfl rfl ?_
 refine oc ?_
 refine S.lenLM rfl ?_
 refine oc ?_
 refine S.faddrP rfl rfl ?_
 refine oc ?_
 refine S.loadP rfl rfl rfl ?_
 refine oc ?_
 refine S.lenLM rfl ?_
 refine oc ?_
 refine S.neq rfl rfl rfl ?_
 refine oz ?_
 rcases ite_some h with ⟨hc, h⟩ | ⟨hc, h⟩
 ·refine Run.setB (t := 12) rfl hc ?_
  refine Run.condT rfl ?_
  refine rs ?_
  refine rs ?_
  refine ro ?_
  refine oc ?_
  refine S.faddrP rfl rfl ?_
  refine oc ?_
  refine S.loadP rfl rfl rfl ?_
  refine oc ?_
  refine S.lenLM rfl ?_
  refine oc ?_
  refine S.faddrP rfl rfl ?_
  refine oc ?_
  refine S.loadP rfl rfl rfl ?_
  refine oc ?_
  refine S.lenLM rfl ?_
  refine oc ?_
  refine S.lss rfl rfl rfl ?_
  refine oz ?_
  refine Run.cutJ (J := fun st => Is [(19, .bool (decide ((a0.length : Int) < (a1.length : Int))))] [] st) ⟨⟨rfl, trivial⟩, trivial⟩ ?_
  rintro st hI
  have hI : Is _ _ _ := hI
  revert hI
  refine fun hI => hI.elim ?_
  intro e H
  rcases ite_some h with ⟨hc, h⟩ | ⟨hc, h⟩
  ·refine Run.setB (t := 19) rfl hc ?_
   refine Run.condT rfl ?_
   refine rs ?_
   refine ro ?_
   refine oc ?_
   refine S.move rfl ?_
   refine oz ?_
   refine Run.ret ?_
   obtain rfl := some_inj h
   exact FinS.fin (End.tmp rfl rfl rfl)
  ·refine Run.setB (t := 19) rfl hc ?_
   refine Run.condF rfl ?_
   refine Run.skip ?_
   refine rs ?_
   refine ro ?_
   refine oc ?_
   refine S.move rfl ?_
   refine oz ?_
   refine Run.ret ?_
   obtain rfl := some_inj h
   exact FinS.fin (End.tmp rfl rfl rfl)
 ·refine Run.setB (t := 12) rfl hc ?_
  refine Run.condF rfl ?_
  refine Run.skip ?_
  refine Run.cutJ (J := fun st => ∃ g2 g3 : Nat, Is [(2, .ptr 2 g2 0), (3, .ptr 3 g3 0)] [(2, g2, some (.box [.sl (List.map c_u32 a0)])), (3, g3, some (.box [.sl (List.map c_u32 a1)]))] st) ⟨_, _, ⟨rfl, rfl, trivial⟩, ⟨rfl, rfl, trivial⟩⟩ ?_
  rintro st ⟨g2, g3, hI⟩
  have hI : Is _ _ _ := hI
  revert hI
  refine fun hI => hI.elim ?_
  intro e H
  refine rs ?_
  refine rs ?_
  refine ro ?_
  refine oc ?_
  refine S.faddrP rfl rfl ?_
  refine oc ?_
  refine S.loadP rfl rfl rfl ?_
  refine oc ?_
  refine S.lenLM rfl ?_
  refine oc ?_
  refine S.sub rfl rfl rfl ?_
  refine oc ?_
  refine S.move rfl ?_
  refine oz ?_
  refine Run.block ?_
  obtain ⟨x6, hx, h⟩ := bnd_some h
  refine Run.iter (I := (fun (s : Int) (st : St) => ∃ g2 g3 : Nat, Is [(2, .ptr 2 g2 0), (3, .ptr 3 g3 0), (5, .int .i64 s)] [(2, g2, some (.box [.sl (List.map c_u32 a0)])), (3, g3, some (.box [.sl (List.map c_u32 a1)]))] st)) (X := (XSum (XOne (.exit 0) (fun (x : Unit) (st : St) => Is [] [] st)) (XRet [.tmp 4] (fun (x : Int) => .int .i64 x)))) hx ?_ ?_ ?_
  ·exact ⟨_, _, ⟨rfl, rfl, rfl, trivial⟩, ⟨rfl, rfl, trivial⟩⟩
  ·rintro s1 st ⟨g2, g3, hI⟩ o h
   have hI : Is _ _ _ := hI
   revert hI
   refine fun hI => hI.elim ?_
   intro e H
   refine rs ?_
   refine rs ?_
   refine ro ?_
   refine oc ?_
   refine S.move rfl ?_
   refine oc ?_
   refine S.geq rfl rfl rfl ?_
   refine oz ?_
   rcases ite_some h with ⟨hc, h⟩ | ⟨hc, h⟩
   ·refine Run.setB (t := 25) rfl hc ?_
    refine Run.condT rfl ?_
    refine Run.skip ?_
    refine rs ?_
    refine Run.block ?_
    refine rs ?_
    refine Run.drawn ?_
    refine d0 rfl ?_
    refine S.faddrP rfl rfl ?_
    refine d1 (x := (_, _)) rfl rfl ?_
    refine S.loadP rfl rfl rfl ?_
    refine d0 rfl ?_
    refine S.move rfl ?_
    obtain ⟨v2, h_v2, h⟩ := bnd_some h
    refine d0 rfl ?_
    refine S.iaddrLM (c := c_u32) rfl rfl h_v2 (fun _ => rfl) ?_
    refine d0 rfl ?_
    refine S.loadC rfl rfl ?_
    refine d0 rfl ?_
    refine S.faddrP rfl rfl ?_
    refine d1 (x := (_, _)) rfl rfl ?_
    refine S.loadP rfl rfl rfl ?_
    refine d0 rfl ?_
    refine S.move rfl ?_
    obtain ⟨v3, h_v3, h⟩ := bnd_some h
    refine d0 rfl ?_
    refine S.iaddrLM (c := c_u32) rfl rfl h_v3 (fun _ => rfl) ?_
    refine d0 rfl ?_
    refine S.loadC rfl rfl ?_
    refine d0 rfl ?_
    refine S.neq rfl rfl rfl ?_
    refine DrawR.nil ?_
    refine Run.cutJ (J := fun st => ∃ g2 g3 : Nat, Is [(2, .ptr 2 g2 0), (3, .ptr 3 g3 0), (5, .int .i64 s1), (38, .bool (decide (v2 ≠ v3)))] [(2, g2, some (.box [.sl (List.map c_u32 a0)])), (3, g3, some (.box [.sl (List.map c_u32 a1)]))] st) ⟨_, _, ⟨rfl, rfl, rfl, rfl, trivial⟩, ⟨rfl, rfl, trivial⟩⟩ ?_
    rintro st ⟨g2, g3, hI⟩
    have hI : Is _ _ _ := hI
    revert hI
    refine fun hI => hI.elim ?_
    intro e H
    rcases ite_some h with ⟨hc, h⟩ | ⟨hc, h⟩
    ·refine Run.setB (t := 38) rfl hc ?_
     refine Run.condT rfl ?_
     refine rs ?_
     refine rs ?_
     refine Run.drawn ?_
     refine d0 rfl ?_
     refine S.faddrP rfl rfl ?_
     refine d1 (x := (_, _)) rfl rfl ?_
     refine S.loadP rfl rfl rfl ?_
     refine d0 rfl ?_
     refine S.move rfl ?_
     obtain ⟨v4, h_v4, h⟩ := bnd_some h
     refine d0 rfl ?_
     refine S.iaddrLM (c := c_u32) rfl rfl h_v4 (fun _ => rfl) ?_
     refine d0 rfl ?_
     refine S.loadC rfl rfl ?_
     refine d0 rfl ?_
     refine S.faddrP rfl rfl ?_
     refine d1 (x := (_, _)) rfl rfl ?_
     refine S.loadP rfl rfl rfl ?_
     refine d0 rfl ?_
     refine S.move rfl ?_
     obtain ⟨v5, h_v5, h⟩ := bnd_some h
     refine d0 rfl ?_
     refine S.iaddrLM (c := c_u32) rfl rfl h_v5 (fun _ => rfl) ?_
     refine d0 rfl ?_
     refine S.loadC rfl rfl ?_
     refine d0 rfl ?_
     refine S.lss rfl rfl rfl ?_
     refine DrawR.nil ?_
     rcases ite_some h with ⟨hc, h⟩ | ⟨hc, h⟩
     ·refine Run.setB (t := 49) rfl hc ?_
      refine Run.condT rfl ?_
      refine rs ?_
      refine ro ?_
      refine oc ?_
      refine S.move rfl ?_
      refine oz ?_
      refine Run.cutJ (J := fun st => Is [(4, .int .i64 (-1))] [] st) ⟨⟨rfl, trivial⟩, trivial⟩ ?_
      rintro st hI
      have hI : Is _ _ _ := hI
      revert hI
      refine fun hI => hI.elim ?_
      intro e H
      refine Run.ret ?_
      obtain rfl := some_inj h
      exact LoopPost.out nofun (Leaf.done (XSum.r (XRet.mk (FinS.fin (End.tmp rfl rfl rfl)))))
     ·refine Run.setB (t := 49) rfl hc ?_
      refine Run.condF rfl ?_
      refine Run.skip ?_
      refine Run.cutJ (J := fun st => Is [] [] st) ⟨trivial, trivial⟩ ?_
      rintro st hI
      have hI : Is _ _ _ := hI
      revert hI
      refine fun hI => hI.elim ?_
      intro e H
      refine rs ?_
      refine ro ?_
      refine oc ?_
      refine S.move rfl ?_
      refine oz ?_
      refine Run.ret ?_
      obtain rfl := some_inj h
      exact LoopPost.out nofun (Leaf.done (XSum.r (XRet.mk (FinS.fin (End.tmp rfl rfl rfl)))))
    ·refine Run.setB (t := 38) rfl hc ?_
     refine Run.condF rfl ?_
     refine Run.skip ?_
     refine ro ?_
     refine oc ?_
     refine S.move rfl ?_
     refine oc ?_
     refine S.sub rfl rfl rfl ?_
     refine oc ?_
     refine S.move rfl ?_
     refine oz ?_
     obtain rfl := some_inj h
     refine LoopPost.next ?_
     exact Leaf.done ⟨_, _, ⟨rfl, rfl, rfl, trivial⟩, ⟨rfl, rfl, trivial⟩⟩
   ·refine Run.setB (t := 25) rfl hc ?_
    refine Run.condF rfl ?_
    refine Run.exit ?_
    obtain rfl := some_inj h
    refine LoopPost.out nofun ?_
    exact Leaf.done (XSum.l (XOne.mk ⟨trivial, trivial⟩))
  ·intro e0 st0 hX
   revert h hX
   rcases x6 with x7 | x8
   ·intro h hX
    replace h := sm_l h
    replace hX := XSum.invl hX
    rcases hX with ⟨hX⟩
    have hI : Is _ _ _ := hX
    revert hI
    refine fun hI => hI.elim ?_
    intro e H
    refine rs ?_
    refine ro ?_
    refine oc ?_
    refine S.move rfl ?_
    refine oz ?_
    refine Run.ret ?_
    obtain rfl := some_inj h
    exact FinS.fin (End.tmp rfl rfl rfl)
   ·intro h hX
    replace h := sm_r h
    replace hX := XSum.invr hX
    rcases hX with ⟨hf⟩
    obtain rfl := some_inj h
    exact hf

theorem r89 (a0 : Int) (r : Int) (h : bits_Len32 a0 = some r) : Fn Try.prog 89 [.int .u32 a0] (.int .i64 r) := by
 unfold bits_Len32 at h
 refine Fn.ofS hm Try.func89 t89 (Nat.le_of_ble_eq_true rfl) ?_
 refine rs ?_
 refine ro ?_
 refine oc ?_
 refine S.move rfl ?_
 refine oz ?_
 refine rs ?_
 obtain ⟨x1, hx, h⟩ := lt_some h
 refine Run.joinG (X := (XOne .normal (fun (x : Int × Int) (st : St) => Is [(0, .int .u32 x.1), (2, .int .i64 x.2)] [] st))) (x := x1) ?_ ?_
 ·replace h := hx
  refine rs ?_
  refine ro ?_
  refine oc ?_
  refine S.move rfl ?_
  refine oc ?_
  refine S.geq rfl rfl rfl ?_
  refine oz ?_
  rcases itep h with ⟨hc, h⟩ | ⟨hc, h⟩
  ·refine Run.setB (t := 4) rfl hc ?_
   refine Run.condT rfl ?_
   refine rs ?_
   refine ro ?_
   refine oc ?_
   refine S.move rfl ?_
   refine oc ?_
   refine S.shr rfl rfl (by decide) rfl ?_
   refine oc ?_
   refine S.move rfl ?_
   refine oz ?_
   refine ro ?_
   refine oc ?_
   refine S.move rfl ?_
   refine oz ?_
   obtain rfl := some_inj h
   refine JP.mk ?_
   exact Leaf.done (XOne.mk ⟨⟨rfl, rfl, trivial⟩, trivial⟩)
  ·refine Run.setB (t := 4) rfl hc ?_
   refine Run.condF rfl ?_
   refine Run.skip ?_
   obtain rfl := some_inj h
   refine JP.mk ?_
   exact Leaf.done (XOne.mk ⟨⟨rfl, rfl, trivial⟩, trivial⟩)
 ·intro e0 st0 hX
  rcases hX with ⟨hX⟩
  have hI : Is _ _ _ := hX
  revert hI
  refine fun hI => hI.elim ?_
  intro e H
  refine rs ?_
  obtain ⟨x2, hx, h⟩ := lt_some h
  refine Run.joinG (X := (XOne .normal (fun (x : Int × Int) (st : St) => Is [(0, .int .u32 x.1), (2, .int .i64 x.2)] [] st))) (x := x2) ?_ ?_
  ·replace h := hx
   refine rs ?_
   refine ro ?_
   refine oc ?_
   refine S.move rfl ?_
   refine oc ?_
   refine S.geq rfl rfl rfl ?_
   refine oz ?_
   rcases itep h with ⟨hc, h⟩ | ⟨hc, h⟩
   ·refine Run.setB (t := 8) rfl hc ?_
    refine Run.condT rfl ?_
    refine rs ?_
    refine ro ?_
    refine oc ?_
    refine S.move rfl ?_
    refine oc ?_
    refine S.shr rfl rfl (by decide) rfl ?_
    refine oc ?_
    refine S.move rfl ?_
    refine oz ?_
    refine ro ?_
    refine oc ?_
    refine S.move rfl ?_
    refine oc ?_
    refine S.add rfl rfl rfl ?_
    refine oc ?_
    refine S.move rfl ?_
    refine oz ?_
    obtain rfl := some_inj h
    refine JP.mk ?_
    exact Leaf.done (XOne.mk ⟨⟨rfl, rfl, trivial⟩, trivial⟩)
   ·refine Run.setB (t := 8) rfl hc ?_
    refine Run.condF rfl ?_
    refine Run.skip ?_
    obtain rfl := some_inj h
    refine JP.mk ?_
    exact Leaf.done (XOne.mk ⟨⟨rfl, rfl, trivial⟩, trivial⟩)
  ·intro e0 st0 hX
   rcases hX with ⟨hX⟩
   have hI : Is _ _ _ := hX
   revert hI
   refine fun hI => hI.elim ?_
   intro e H
   refine rs ?_
   refine ro ?_
   refine oc ?_
   refine S.move rfl ?_
   refine oc ?_
   refine S.move rfl ?_
   refine oc ?_
   refine S.toInt rfl rfl ?_
   obtain ⟨v3, h_v3, h⟩ := bnd_some h
   refine oc ?_
   refine S.indexM rfl rfl h_v3 ?_
   refine oc ?_
   refine S.toInt rfl rfl ?_
   refine oc ?_
   refine S.add rfl rfl rfl ?_
   refine oc ?_
   refine S.move rfl ?_
   refine oz ?_
   refine Run.ret ?_
   obtain rfl := some_inj h
   exact FinS.fin (End.tmp rfl rfl rfl)

theorem r82 (a0 : Int) (r : Int) (h : bits_LeadingZeros32 a0 = some r) : Fn Try.prog 82 [.int .u32 a0] (.int .i64 r) := by
 unfold bits_LeadingZeros32 at h
 refine Fn.ofS hm Try.func82 t82 (Nat.le_of_ble_eq_true rfl) ?_
 refine rs ?_
 refine ro ?_
 refine oc ?_
 refine S.move rfl ?_
 refine oz ?_
 refine rs ?_
 refine ro ?_
 refine oc ?_
 refine S.move rfl ?_
 obtain ⟨v1, h_v1, h⟩ := bnd_some h
 refine oc ?_
 refine S.call (And.intro rfl rfl) (r89 a0 _ h_v1) rfl ?_
 refine oc ?_
 refine S.sub rfl rfl rfl ?_
 refine oc ?_
 refine S.move rfl ?_
 refine oz ?_
 refine Run.ret ?_
 obtain rfl := some_inj h
 exact FinS.fin (End.tmp rfl rfl rfl)

theorem r83 (a0 : T_nat_Nat) (a1 : Int) (r : T_nat_Nat) (h : nat_Nat_Shl a0 a1 = some r) : Fn Try.prog 83 [.agg (c_nat_Nat a0), .int .i64 a1] (.agg (c_nat_Nat r)) := by
 unfold nat_Nat_Shl at h
 refine Fn.ofS hm Try.func83 t83 (Nat.le_of_ble_eq_true rfl) ?_
 refine rs ?_
 refine ro ?_
 refine oc ?_
 refine S.box rfl rfl rfl rfl ?_
 refine oc ?_
 refine S.alloc rfl ?_
 refine oz ?_
 refine rs ?_
 refine rs ?_
 refine ro ?_
 refine oc ?_
 refine S.move rfl ?_
 refine oc ?_
 refine S.leq rfl rfl rfl ?_
 refine oc ?_
 refine S.move rfl ?_
 obtain ⟨x1, hx, h⟩ := lt_some h
 refine OpsR.splitAt 5 (J := fun st => ∃ g2 g4 : Nat, Is [(1, .int .i64 a1), (2, .ptr 2 g2 0), (4, .ptr 4 g4 0), (18, .bool x1)] [(2, g2, some (.box [.sl (List.map c_u32 a0)])), (4, g4, some (.box [.nil]))] st) ?_ ?_
 ·replace h := hx
  rcases itep h with ⟨hc, h⟩ | ⟨hc, h⟩
  ·refine OpsR.setB (t := 13) rfl hc ?_
   refine oc ?_
   refine S.off rfl (by decide) ?_
   refine oc ?_
   refine S.off rfl (by decide) ?_
   refine oc ?_
   refine S.off rfl (by decide) ?_
   refine oc ?_
   refine S.off rfl (by decide) ?_
   refine oc ?_
   refine S.pick rfl rfl rfl rfl ?_
   obtain rfl := some_inj h
   refine oz ?_
   exact ⟨_, _, ⟨rfl, rfl, rfl, rfl, trivial⟩, ⟨rfl, rfl, trivial⟩⟩
  ·refine OpsR.setB (t := 13) rfl hc ?_
   refine oc ?_
   refine S.on rfl ?_
   refine S.faddrP rfl rfl ?_
   refine oc ?_
   refine S.on rfl ?_
   refine S.loadP rfl rfl rfl ?_
   refine oc ?_
   refine S.on rfl ?_
   refine S.lenLM rfl ?_
   refine oc ?_
   refine S.on rfl ?_
   refine S.eql rfl rfl rfl ?_
   refine oc ?_
   refine S.pick rfl rfl rfl rfl ?_
   obtain rfl := some_inj h
   refine oz ?_
   exact ⟨_, _, ⟨rfl, rfl, rfl, rfl, trivial⟩, ⟨rfl, rfl, trivial⟩⟩
 ·rintro st ⟨g2, g4, hI⟩
  have hI : Is _ _ _ := hI
  revert hI
  refine fun hI => hI.elim ?_
  intro e H
  refine oz ?_
  rcases ite_some h with ⟨hc, h⟩ | ⟨hc, h⟩
  ·refine Run.setB (t := 18) rfl hc ?_
   refine Run.condT rfl ?_
   refine rs ?_
   refine ro ?_
   refine oc ?_
   refine S.loadP rfl rfl rfl ?_
   refine oc ?_
   refine S.storeP rfl rfl rfl rfl rfl rfl (Nat.le_of_ble_eq_true rfl) rfl ?_
   refine oz ?_
   refine Run.ret ?_
   obtain rfl := some_inj h
   exact FinS.fin (End.cell rfl rfl rfl rfl rfl)
  ·refine Run.setB (t := 18) rfl hc ?_
   refine Run.condF rfl ?_
   refine Run.skip ?_
   refine rs ?_
   refine ro ?_
   refine oc ?_
   refine S.move rfl ?_
   refine oc ?_
   refine S.quo rfl rfl (by decide) rfl ?_
   refine oc ?_
   refine S.move rfl ?_
   refine oc ?_
   refine S.rem rfl rfl (by decide) rfl ?_
   refine oc ?_
   refine S.toInt rfl rfl ?_
   refine oc ?_
   refine S.move rfl ?_
   refine oc ?_
   refine S.move rfl ?_
   refine oz ?_
   refine rs ?_
   refine ro ?_
   refine oc ?_
   refine S.faddrP rfl rfl ?_
   refine oc ?_
   refine S.loadP rfl rfl rfl ?_
   refine oc ?_
   refine S.lenLM rfl ?_
   refine oc ?_
   refine S.move rfl ?_
   refine oc ?_
   refine S.add rfl rfl rfl ?_
   refine oc ?_
   refine S.add rfl rfl rfl ?_
   obtain ⟨v2, h_v2, h⟩ := bnd_some h
   refine oc ?_
   refine S.mkSlM (c := c_u32) rfl rfl h_v2 rfl rfl ?_
   refine oc ?_
   refine S.move rfl ?_
   refine oz ?_
   refine Run.cutJ (J := fun st => ∃ g2 g4 g31 : Nat, Is [(2, .ptr 2 g2 0), (4, .ptr 4 g4 0), (5, .int .i64 (wrap .i64 (Int.tdiv a1 32))), (6, .int .u64 (wrap .u64 (Int.tmod a1 32))), (7, .view 31 g31 1 (List.map c_u32 v2).length)] [(2, g2, some (.box [.sl (List.map c_u32 a0)])), (4, g4, some (.box [.nil])), (31, g31, some (.arr 83 1 (List.map c_u32 v2)))] st) ⟨_, _, _, ⟨rfl, rfl, rfl, rfl, rfl, trivial⟩, ⟨rfl, rfl, rfl, trivial⟩⟩ ?_
   rintro st ⟨g2, g4, g31, hI⟩
   have hI : Is _ _ _ := hI
   revert hI
   refine fun hI => hI.elim ?_
   intro e H
   refine rs ?_
   refine rs ?_
   refine ro ?_
   refine oc ?_
   refine S.faddrP rfl rfl ?_
   refine oc ?_
   refine S.loadP rfl rfl rfl ?_
   refine oc ?_
   refine S.lenLM rfl ?_
   refine oc ?_
   refine S.move rfl ?_
   refine oz ?_
   refine Run.block ?_
   obtain ⟨x9, hx, h⟩ := bnd_some h
   refine Run.iter (I := (fun (s : Int × List Int) (st : St) => ∃ g4 g31 : Nat, Is [(4, .ptr 4 g4 0), (5, .int .i64 (wrap .i64 (Int.tdiv a1 32))), (6, .int .u64 (wrap .u64 (Int.tmod a1 32))), (7, .view 31 g31 1 (List.map c_u32 s.2).length), (33, .sl (List.map c_u32 a0)), (34, .int .i64 (a0.length : Int)), (35, .int .i64 s.1)] [(4, g4, some (.box [.nil])), (31, g31, some (.arr 83 1 (List.map c_u32 s.2)))] st)) (X := (XOne (.exit 0) (fun (x : List Int) (st : St) => ∃ g4 g31 : Nat, Is [(4, .ptr 4 g4 0), (7, .view 31 g31 1 (List.map c_u32 x).length)] [(4, g4, some (.box [.nil])), (31, g31, some (.arr 83 1 (List.map c_u32 x)))] st))) hx ?_ ?_ ?_
   ·exact ⟨_, _, ⟨rfl, rfl, rfl, rfl, rfl, rfl, rfl, trivial⟩, ⟨rfl, rfl, trivial⟩⟩
   ·rintro s3 st ⟨g4, g31, hI⟩ o h
    have hI : Is _ _ _ := hI
    revert hI
    refine fun hI => hI.elim ?_
    intro e H
    refine rs ?_
    refine ro ?_
    refine oc ?_
    refine S.lss rfl rfl rfl ?_
    refine oz ?_
    refine rs ?_
    rcases ite_some h with ⟨hc, h⟩ | ⟨hc, h⟩
    ·refine Run.setB (t := 36) rfl hc ?_
     refine Run.condT rfl ?_
     refine Run.skip ?_
     refine rs ?_
     refine Run.block ?_
     refine rs ?_
     refine ro ?_
     refine oc ?_
     refine S.move rfl ?_
     obtain ⟨v4, h_v4, h⟩ := bnd_some h
     refine oc ?_
     refine S.iaddrLM (c := c_u32) rfl rfl h_v4 (fun _ => rfl) ?_
     refine oc ?_
     refine S.loadC rfl rfl ?_
     refine oc ?_
     refine S.move rfl ?_
     refine oc ?_
     refine S.move rfl ?_
     refine oz ?_
     refine rs ?_
     refine ro ?_
     refine oc ?_
     refine S.move rfl ?_
     refine oc ?_
     refine S.toInt rfl rfl ?_
     refine oc ?_
     refine S.move rfl ?_
     obtain ⟨v5, h_v5, h⟩ := bnd_some h
     refine oc ?_
     refine S.shl rfl rfl (chk_some h_v5) rfl ?_
     refine oc ?_
     refine S.move rfl ?_
     refine oz ?_
     refine rs ?_
     refine ro ?_
     refine oc ?_
     refine S.move rfl ?_
     refine oc ?_
     refine S.move rfl ?_
     refine oc ?_
     refine S.move rfl ?_
     refine oc ?_
     refine S.add rfl rfl rfl ?_
     obtain ⟨v6, h_v6, h⟩ := bnd_some h
     refine oc ?_
     refine S.iaddrVM (c := c_u32) rfl rfl (get_in h_v6) ?_
     refine oc ?_
     refine S.loadEM rfl rfl (get_at h_v6) rfl ?_
     refine oc ?_
     refine S.move rfl ?_
     refine oc ?_
     refine S.toInt rfl rfl ?_
     refine oc ?_
     refine S.or rfl rfl rfl ?_
     obtain ⟨v7, h_v7, h⟩ := bnd_some h
     refine oc ?_
     refine S.iaddrVM (c := c_u32) rfl rfl (put_in h_v7) ?_
     refine oc ?_
     refine S.putM rfl rfl rfl rfl rfl rfl (by decide) (put_at h_v7) (fun _ => rfl) ?_
     refine OpsR.retell (t := 7) rfl (lenPut c_u32 (put_at h_v7)) ?_
     refine oz ?_
     refine Run.cutJ (J := fun st => ∃ g4 g31 : Nat, Is [(4, .ptr 4 g4 0), (5, .int .i64 (wrap .i64 (Int.tdiv a1 32))), (6, .int .u64 (wrap .u64 (Int.tmod a1 32))), (7, .view 31 g31 1 (List.map c_u32 v7).length), (8, .int .i64 s3.1), (10, .int .u64 (shl .u64 (wrap .u64 v4) (wrap .u64 (Int.tmod a1 32)))), (33, .sl (List.map c_u32 a0)), (34, .int .i64 (a0.length : Int)), (35, .int .i64 s3.1)] [(4, g4, some (.box [.nil])), (31, g31, some (.arr 83 1 (List.map c_u32 v7)))] st) ⟨_, _, ⟨rfl, rfl, rfl, rfl, rfl, rfl, rfl, rfl, rfl, trivial⟩, ⟨rfl, rfl, trivial⟩⟩ ?_
     rintro st ⟨g4, g31, hI⟩
     have hI : Is _ _ _ := hI
     revert hI
     refine fun hI => hI.elim ?_
     intro e H
     refine ro ?_
     refine oc ?_
     refine S.move rfl ?_
     refine oc ?_
     refine S.move rfl ?_
     refine oc ?_
     refine S.move rfl ?_
     refine oc ?_
     refine S.add rfl rfl rfl ?_
     refine oc ?_
     refine S.add rfl rfl rfl ?_
     refine oc ?_
     refine S.move rfl ?_
     refine oc ?_
     refine S.shr rfl rfl (by decide) rfl ?_
     refine oc ?_
     refine S.toInt rfl rfl ?_
     obtain ⟨v8, h_v8, h⟩ := bnd_some h
     refine oc ?_
     refine S.iaddrVM (c := c_u32) rfl rfl (put_in h_v8) ?_
     refine oc ?_
     refine S.putM rfl rfl rfl rfl rfl rfl (by decide) (put_at h_v8) (fun _ => rfl) ?_
     refine OpsR.retell (t := 7) rfl (lenPut c_u32 (put_at h_v8)) ?_
     refine oz ?_
     refine ro ?_
     refine oc ?_
     refine S.add rfl rfl rfl ?_
     refine oc ?_
     refine S.move rfl ?_
     refine oz ?_
     obtain rfl := some_inj h
     refine LoopPost.next ?_
     exact Leaf.done ⟨_, _, ⟨rfl, rfl, rfl, rfl, rfl, rfl, rfl, trivial⟩, ⟨rfl, rfl, trivial⟩⟩
    ·refine Run.setB (t := 36) rfl hc ?_
     refine Run.condF rfl ?_
     refine Run.exit ?_
     obtain rfl := some_inj h
     refine LoopPost.out nofun ?_
     exact Leaf.done (XOne.mk ⟨_, _, ⟨rfl, rfl, trivial⟩, ⟨rfl, rfl, trivial⟩⟩)
   ·intro e0 st0 hX
    rcases hX with ⟨hX⟩
    obtain ⟨g4, g31, hI⟩ := hX
    revert hI
    refine fun hI => hI.elim ?_
    intro e H
    refine rs ?_
    refine ro ?_
    refine oc ?_
    refine S.move rfl ?_
    obtain ⟨v10, h_v10, h⟩ := bnd_some h
    refine oc ?_
    refine S.call (And.intro rfl (And.intro rfl (And.intro rfl (And.intro rfl rfl)))) (r58 x9 _ h_v10) rfl ?_
    refine oc ?_
    refine S.storeP rfl rfl rfl rfl rfl rfl (Nat.le_of_ble_eq_true rfl) rfl ?_
    refine oz ?_
    refine Run.ret ?_
    obtain rfl := some_inj h
    exact FinS.fin (End.cell rfl rfl rfl rfl rfl)

theorem r87 (a0 : Int) (a1 : Int) (a2 : Int) (r : Int × Int) (h : bits_Sub32 a0 a1 a2 = some r) : Fn Try.prog 87 [.int .u32 a0, .int .u32 a1, .int .u32 a2] (.tup [.int .u32 r.1, .int .u32 r.2]) := by
 unfold bits_Sub32 at h
 refine Fn.ofS hm Try.func87 t87 (Nat.le_of_ble_eq_true rfl) ?_
 refine rs ?_
 refine ro ?_
 refine oc ?_
 refine S.move rfl ?_
 refine oc ?_
 refine S.move rfl ?_
 refine oz ?_
 refine rs ?_
 refine ro ?_
 refine oc ?_
 refine S.move rfl ?_
 refine oc ?_
 refine S.move rfl ?_
 refine oc ?_
 refine S.sub rfl rfl rfl ?_
 refine oc ?_
 refine S.move rfl ?_
 refine oc ?_
 refine S.sub rfl rfl rfl ?_
 refine oc ?_
 refine S.move rfl ?_
 refine oz ?_
 refine rs ?_
 refine ro ?_
 refine oc ?_
 refine S.move rfl ?_
 refine oc ?_
 refine S.compl rfl rfl ?_
 refine oc ?_
 refine S.move rfl ?_
 refine oc ?_
 refine S.and rfl rfl rfl ?_
 refine oc ?_
 refine S.move rfl ?_
 refine oc ?_
 refine S.move rfl ?_
 refine oc ?_
 refine S.xor rfl rfl rfl ?_
 refine oc ?_
 refine S.compl rfl rfl ?_
 refine oc ?_
 refine S.move rfl ?_
 refine oc ?_
 refine S.and rfl rfl rfl ?_
 refine oc ?_
 refine S.or rfl rfl rfl ?_
 refine oc ?_
 refine S.shr rfl rfl (by decide) rfl ?_
 refine oc ?_
 refine S.move rfl ?_
 refine oz ?_
 refine Run.cutJ (J := fun st => Is [(6, .int .u32 (wrap .u32 ((wrap .u32 (a0 - a1)) - a2))), (7, .int .u32 (shr .u32 (bor .u32 (band .u32 (bnot .u32 a0) a1) (band .u32 (bnot .u32 (bxor .u32 a0 a1)) (wrap .u32 ((wrap .u32 (a0 - a1)) - a2)))) 31))] [] st) ⟨⟨rfl, rfl, trivial⟩, trivial⟩ ?_
 rintro st hI
 have hI : Is _ _ _ := hI
 revert hI
 refine fun hI => hI.elim ?_
 intro e H
 refine Run.ret ?_
 obtain rfl := some_inj h
 exact FinS.fin (End.all rfl)

theorem r84 (a0 : List Int) (a0o a0n : Nat) (a1 : List Int) (a2 : Int) (r : Bool × List Int) (h : nat_under a0 a0o a0n a1 a2 = some r) : Fn Try.prog 84 (.tup [.own 83 1 (List.map c_u32 a0), .ptr a0o a0n 0] :: [.sl (List.map c_u32 a1), .int .u64 a2]) (.tup [.bool r.1, .own 83 1 (List.map c_u32 r.2)]) := by
 unfold nat_under at h
 refine Fn.ofIO hm Try.func84 t84 1000 (Nat.le_of_ble_eq_true rfl) ?_
 refine rs ?_
 refine ro ?_
 refine oc ?_
 refine S.move rfl ?_
 refine oz ?_
 refine rs ?_
 refine ro ?_
 refine oc ?_
 refine S.move rfl ?_
 refine oc ?_
 refine S.move rfl ?_
 refine oz ?_
 refine rs ?_
 refine rs ?_
 refine ro ?_
 refine oc ?_
 refine S.move rfl ?_
 refine oc ?_
 refine S.lenLM rfl ?_
 refine oc ?_
 refine S.move rfl ?_
 refine oz ?_
 refine Run.block ?_
 obtain ⟨x6, hx, h⟩ := bnd_some h
 refine Run.iter (I := (fun (s : Int × Int × Int × List Int) (st : St) => Is [(0, .sub 1000 1 1 a0o a0n), (1, .sl (List.map c_u32 a1)), (2, .int .u64 a2), (7, .int .u64 s.1), (8, .int .u32 s.2.1), (12, .sl (List.map c_u32 a1)), (13, .int .i64 (a1.length : Int)), (14, .int .i64 s.2.2.1)] [(1000, 1, some (.arr 83 1 (List.map c_u32 s.2.2.2)))] st)) (X := (XOne (.exit 0) (fun (x : Int × Int × List Int) (st : St) => Is [(0, .sub 1000 1 1 a0o a0n), (1, .sl (List.map c_u32 a1)), (7, .int .u64 x.1), (8, .int .u32 x.2.1)] [(1000, 1, some (.arr 83 1 (List.map c_u32 x.2.2)))] st))) hx ?_ ?_ ?_
 ·exact ⟨⟨rfl, rfl, rfl, rfl, rfl, rfl, rfl, rfl, trivial⟩, ⟨rfl, trivial⟩⟩
 ·rintro s1 st hI o h
  have hI : Is _ _ _ := hI
  revert hI
  refine fun hI => hI.elim ?_
  intro e H
  refine rs ?_
  refine ro ?_
  refine oc ?_
  refine S.lss rfl rfl rfl ?_
  refine oz ?_
  refine rs ?_
  rcases ite_some h with ⟨hc, h⟩ | ⟨hc, h⟩
  ·refine Run.setB (t := 15) rfl hc ?_
   refine Run.condT rfl ?_
   refine Run.skip ?_
   refine rs ?_
   refine Run.block ?_
   refine rs ?_
   refine ro ?_
   refine oc ?_
   refine S.move rfl ?_
   obtain ⟨v2, h_v2, h⟩ := bnd_some h
   refine oc ?_
   refine S.iaddrLM (c := c_u32) rfl rfl h_v2 (fun _ => rfl) ?_
   refine oc ?_
   refine S.loadC rfl rfl ?_
   refine oc ?_
   refine S.move rfl ?_
   refine oc ?_
   refine S.move rfl ?_
   refine oz ?_
   refine rs ?_
   refine ro ?_
   refine oc ?_
   refine S.move rfl ?_
   refine oc ?_
   refine S.move rfl ?_
   refine oc ?_
   refine S.toInt rfl rfl ?_
   refine oc ?_
   refine S.mul rfl rfl rfl ?_
   refine oc ?_
   refine S.move rfl ?_
   refine oc ?_
   refine S.add rfl rfl rfl ?_
   refine oc ?_
   refine S.move rfl ?_
   refine oz ?_
   refine Run.cutJ (J := fun st => Is [(0, .sub 1000 1 1 a0o a0n), (1, .sl (List.map c_u32 a1)), (2, .int .u64 a2), (8, .int .u32 s1.2.1), (9, .int .i64 s1.2.2.1), (11, .int .u64 (wrap .u64 ((wrap .u64 (a2 * (wrap .u64 v2))) + s1.1))), (12, .sl (List.map c_u32 a1)), (13, .int .i64 (a1.length : Int)), (14, .int .i64 s1.2.2.1)] [(1000, 1, some (.arr 83 1 (List.map c_u32 s1.2.2.2)))] st) ⟨⟨rfl, rfl, rfl, rfl, rfl, rfl, rfl, rfl, rfl, trivial⟩, ⟨rfl, trivial⟩⟩ ?_
   rintro st hI
   have hI : Is _ _ _ := hI
   revert hI
   refine fun hI => hI.elim ?_
   intro e H
   refine rs ?_
   refine ro ?_
   refine oc ?_
   refine S.move rfl ?_
   refine oc ?_
   refine S.shr rfl rfl (by decide) rfl ?_
   refine oc ?_
   refine S.move rfl ?_
   refine oz ?_
   refine ro ?_
   refine oc ?_
   refine S.move rfl ?_
   refine oc ?_
   refine S.move rfl ?_
   refine oc ?_
   refine S.move rfl ?_
   refine oc ?_
   refine S.move rfl ?_
   obtain ⟨v3, h_v3, h⟩ := bnd_some h
   refine oc ?_
   refine S.iaddrSubM rfl rfl (getS_in h_v3) ?_
   refine oc ?_
   refine S.loadEM rfl rfl (getS_at h_v3) rfl ?_
   refine oc ?_
   refine S.move rfl ?_
   refine oc ?_
   refine S.toInt rfl rfl ?_
   refine oc ?_
   refine S.move rfl ?_
   obtain ⟨v4, h_v4, h⟩ := bnd_some h
   refine oc ?_
   refine S.call (And.intro rfl rfl) (r87 v3 (wrap .u32 (wrap .u64 ((wrap .u64 (a2 * (wrap .u64 v2))) + s1.1))) s1.2.1 _ h_v4) rfl ?_
   refine oc ?_
   refine S.move rfl ?_
   refine oc ?_
   refine S.extract rfl rfl ?_
   refine oc ?_
   refine S.extract rfl rfl ?_
   obtain ⟨v5, h_v5, h⟩ := bnd_some h
   refine oc ?_
   refine S.iaddrSubM rfl rfl (putS_in h_v5) ?_
   refine oc ?_
   refine S.putM rfl rfl rfl rfl rfl rfl (by decide) (putS_at h_v5) (fun _ => rfl) ?_
   refine oc ?_
   refine S.move rfl ?_
   refine oz ?_
   refine Run.cutJ (J := fun st => Is [(0, .sub 1000 1 1 a0o a0n), (1, .sl (List.map c_u32 a1)), (2, .int .u64 a2), (7, .int .u64 (shr .u64 (wrap .u64 ((wrap .u64 (a2 * (wrap .u64 v2))) + s1.1)) 32)), (8, .int .u32 v4.2), (12, .sl (List.map c_u32 a1)), (13, .int .i64 (a1.length : Int)), (14, .int .i64 s1.2.2.1)] [(1000, 1, some (.arr 83 1 (List.map c_u32 v5)))] st) ⟨⟨rfl, rfl, rfl, rfl, rfl, rfl, rfl, rfl, trivial⟩, ⟨rfl, trivial⟩⟩ ?_
   rintro st hI
   have hI : Is _ _ _ := hI
   revert hI
   refine fun hI => hI.elim ?_
   intro e H
   refine ro ?_
   refine oc ?_
   refine S.add rfl rfl rfl ?_
   refine oc ?_
   refine S.move rfl ?_
   refine oz ?_
   obtain rfl := some_inj h
   refine LoopPost.next ?_
   exact Leaf.done ⟨⟨rfl, rfl, rfl, rfl, rfl, rfl, rfl, rfl, trivial⟩, ⟨rfl, trivial⟩⟩
  ·refine Run.setB (t := 15) rfl hc ?_
   refine Run.condF rfl ?_
   refine Run.exit ?_
   obtain rfl := some_inj h
   refine LoopPost.out nofun ?_
   exact Leaf.done (XOne.mk ⟨⟨rfl, rfl, rfl, rfl, trivial⟩, ⟨rfl, trivial⟩⟩)
 ·intro e0 st0 hX
  rcases hX with ⟨hX⟩
  have hI : Is _ _ _ := hX
  revert hI
  refine fun hI => hI.elim ?_
  intro e H
  refine rs ?_
  refine ro ?_
  refine oc ?_
  refine S.move rfl ?_
  refine oc ?_
  refine S.move rfl ?_
  refine oc ?_
  refine S.lenLM rfl ?_
  refine oc ?_
  refine S.move rfl ?_
  refine oc ?_
  refine S.move rfl ?_
  refine oc ?_
  refine S.lenLM rfl ?_
  obtain ⟨v7, h_v7, h⟩ := bnd_some h
  refine oc ?_
  refine S.iaddrSubM rfl rfl (getS_in h_v7) ?_
  refine oc ?_
  refine S.loadEM rfl rfl (getS_at h_v7) rfl ?_
  refine oc ?_
  refine S.move rfl ?_
  refine oc ?_
  refine S.toInt rfl rfl ?_
  refine oc ?_
  refine S.move rfl ?_
  obtain ⟨v8, h_v8, h⟩ := bnd_some h
  refine oc ?_
  refine S.call (And.intro rfl rfl) (r87 v7 (wrap .u32 x6.1) x6.2.1 _ h_v8) rfl ?_
  refine oc ?_
  refine S.move rfl ?_
  refine oc ?_
  refine S.extract rfl rfl ?_
  refine oc ?_
  refine S.extract rfl rfl ?_
  obtain ⟨v9, h_v9, h⟩ := bnd_some h
  refine oc ?_
  refine S.iaddrSubM rfl rfl (putS_in h_v9) ?_
  refine oc ?_
  refine S.putM rfl rfl rfl rfl rfl rfl (by decide) (putS_at h_v9) (fun _ => rfl) ?_
  refine oc ?_
  refine S.move rfl ?_
  refine oz ?_
  refine Run.cutJ (J := fun st => Is [(0, .sub 1000 1 1 a0o a0n), (8, .int .u32 v8.2)] [(1000, 1, some (.arr 83 1 (List.map c_u32 v9)))] st) ⟨⟨rfl, rfl, trivial⟩, ⟨rfl, trivial⟩⟩ ?_
  rintro st hI
  have hI : Is _ _ _ := hI
  revert hI
  refine fun hI => hI.elim ?_
  intro e H
  refine rs ?_
  refine ro ?_
  refine oc ?_
  refine S.move rfl ?_
  refine oc ?_
  refine S.eql rfl rfl rfl ?_
  refine oc ?_
  refine S.move rfl ?_
  refine oz ?_
  refine Run.ret ?_
  obtain rfl := some_inj h
  exact ⟨.inl rfl, rfl, .inr ⟨_, rfl, rfl, rfl⟩⟩

theorem r79 (a0 : Int) (a1 : Int) (a2 : Int) (r : Int × Int) (h : bits_Add32 a0 a1 a2 = some r) : Fn Try.prog 79 [.int .u32 a0, .int .u32 a1, .int .u32 a2] (.tup [.int .u32 r.1, .int .u32 r.2]) := by
 unfold bits_Add32 at h
 refine Fn.ofS hm Try.func79 t79 (Nat.le_of_ble_eq_true rfl) ?_
 refine rs ?_
 refine ro ?_
 refine oc ?_
 refine S.move rfl ?_
 refine oc ?_
 refine S.move rfl ?_
 refine oz ?_
 refine rs ?_
 refine ro ?_
 refine oc ?_
 refine S.move rfl ?_
 refine oc ?_
 refine S.toInt rfl rfl ?_
 refine oc ?_
 refine S.move rfl ?_
 refine oc ?_
 refine S.toInt rfl rfl ?_
 refine oc ?_
 refine S.add rfl rfl rfl ?_
 refine oc ?_
 refine S.move rfl ?_
 refine oc ?_
 refine S.toInt rfl rfl ?_
 refine oc ?_
 refine S.add rfl rfl rfl ?_
 refine oc ?_
 refine S.move rfl ?_
 refine oz ?_
 refine rs ?_
 refine ro ?_
 refine oc ?_
 refine S.move rfl ?_
 refine oc ?_
 refine S.toInt rfl rfl ?_
 refine oc ?_
 refine S.move rfl ?_
 refine oz ?_
 refine Run.cutJ (J := fun st => Is [(6, .int .u32 (wrap .u32 (wrap .u64 ((wrap .u64 ((wrap .u64 a0) + (wrap .u64 a1))) + (wrap .u64 a2))))), (8, .int .u64 (wrap .u64 ((wrap .u64 ((wrap .u64 a0) + (wrap .u64 a1))) + (wrap .u64 a2))))] [] st) ⟨⟨rfl, rfl, trivial⟩, trivial⟩ ?_
 rintro st hI
 have hI : Is _ _ _ := hI
 revert hI
 refine fun hI => hI.elim ?_
 intro e H
 refine rs ?_
 refine ro ?_
 refine oc ?_
 refine S.move rfl ?_
 refine oc ?_
 refine S.shr rfl rfl (by decide) rfl ?_
 refine oc ?_
 refine S.toInt rfl rfl ?_
 refine oc ?_
 refine S.move rfl ?_
 refine oz ?_
 refine Run.ret ?_
 obtain rfl := some_inj h
 exact FinS.fin (End.all rfl)

theorem r85 (a0 : List Int) (a0o a0n : Nat) (a1 : List Int) (r : Unit × List Int) (h : nat_back a0 a0o a0n a1 = some r) : Fn Try.prog 85 (.tup [.own 83 1 (List.map c_u32 a0), .ptr a0o a0n 0] :: [.sl (List.map c_u32 a1)]) (.tup [.tup [], .own 83 1 (List.map c_u32 r.2)]) := by
 unfold nat_back at h
 refine Fn.ofIO hm Try.func85 t85 1000 (Nat.le_of_ble_eq_true rfl) ?_
 refine rs ?_
 refine ro ?_
 refine oc ?_
 refine S.move rfl ?_
 refine oz ?_
 refine rs ?_
 refine rs ?_
 refine ro ?_
 refine oc ?_
 refine S.move rfl ?_
 refine oc ?_
 refine S.lenLM rfl ?_
 refine oc ?_
 refine S.move rfl ?_
 refine oz ?_
 refine Run.block ?_
 obtain ⟨x6, hx, h⟩ := bnd_some h
 refine Run.iter (I := (fun (s : Int × Int × List Int) (st : St) => Is [(0, .sub 1000 1 1 a0o a0n), (1, .sl (List.map c_u32 a1)), (4, .int .u32 s.1), (7, .sl (List.map c_u32 a1)), (8, .int .i64 (a1.length : Int)), (9, .int .i64 s.2.1)] [(1000, 1, some (.arr 83 1 (List.map c_u32 s.2.2)))] st)) (X := (XOne (.exit 0) (fun (x : Int × List Int) (st : St) => Is [(0, .sub 1000 1 1 a0o a0n), (1, .sl (List.map c_u32 a1)), (4, .int .u32 x.1)] [(1000, 1, some (.arr 83 1 (List.map c_u32 x.2)))] st))) hx ?_ ?_ ?_
 ·exact ⟨⟨rfl, rfl, rfl, rfl, rfl, rfl, trivial⟩, ⟨rfl, trivial⟩⟩
 ·rintro s1 st hI o h
  have hI : Is _ _ _ := hI
  revert hI
  refine fun hI => hI.elim ?_
  intro e H
  refine rs ?_
  refine ro ?_
  refine oc ?_
  refine S.lss rfl rfl rfl ?_
  refine oz ?_
  refine rs ?_
  rcases ite_some h with ⟨hc, h⟩ | ⟨hc, h⟩
  ·refine Run.setB (t := 10) rfl hc ?_
   refine Run.condT rfl ?_
   refine Run.skip ?_
   refine rs ?_
   refine Run.block ?_
   refine rs ?_
   refine ro ?_
   refine oc ?_
   refine S.move rfl ?_
   obtain ⟨v2, h_v2, h⟩ := bnd_some h
   refine oc ?_
   refine S.iaddrLM (c := c_u32) rfl rfl h_v2 (fun _ => rfl) ?_
   refine oc ?_
   refine S.loadC rfl rfl ?_
   refine oc ?_
   refine S.move rfl ?_
   refine oc ?_
   refine S.move rfl ?_
   refine oz ?_
   refine ro ?_
   refine oc ?_
   refine S.move rfl ?_
   refine oc ?_
   refine S.move rfl ?_
   refine oc ?_
   refine S.move rfl ?_
   refine oc ?_
   refine S.move rfl ?_
   obtain ⟨v3, h_v3, h⟩ := bnd_some h
   refine oc ?_
   refine S.iaddrSubM rfl rfl (getS_in h_v3) ?_
   refine oc ?_
   refine S.loadEM rfl rfl (getS_at h_v3) rfl ?_
   refine oc ?_
   refine S.move rfl ?_
   refine oc ?_
   refine S.move rfl ?_
   obtain ⟨v4, h_v4, h⟩ := bnd_some h
   refine oc ?_
   refine S.call (And.intro rfl rfl) (r79 v3 v2 s1.1 _ h_v4) rfl ?_
   refine oc ?_
   refine S.move rfl ?_
   refine oc ?_
   refine S.extract rfl rfl ?_
   refine oc ?_
   refine S.extract rfl rfl ?_
   obtain ⟨v5, h_v5, h⟩ := bnd_some h
   refine oc ?_
   refine S.iaddrSubM rfl rfl (putS_in h_v5) ?_
   refine oc ?_
   refine S.putM rfl rfl rfl rfl rfl rfl (by decide) (putS_at h_v5) (fun _ => rfl) ?_
   refine oc ?_
   refine S.move rfl ?_
   refine oz ?_
   refine Run.cutJ (J := fun st => Is [(0, .sub 1000 1 1 a0o a0n), (1, .sl (List.map c_u32 a1)), (4, .int .u32 v4.2), (7, .sl (List.map c_u32 a1)), (8, .int .i64 (a1.length : Int)), (9, .int .i64 s1.2.1)] [(1000, 1, some (.arr 83 1 (List.map c_u32 v5)))] st) ⟨⟨rfl, rfl, rfl, rfl, rfl, rfl, trivial⟩, ⟨rfl, trivial⟩⟩ ?_
   rintro st hI
   have hI : Is _ _ _ := hI
   revert hI
   refine fun hI => hI.elim ?_
   intro e H
   refine ro ?_
   refine oc ?_
   refine S.add rfl rfl rfl ?_
   refine oc ?_
   refine S.move rfl ?_
   refine oz ?_
   obtain rfl := some_inj h
   refine LoopPost.next ?_
   exact Leaf.done ⟨⟨rfl, rfl, rfl, rfl, rfl, rfl, trivial⟩, ⟨rfl, trivial⟩⟩
  ·refine Run.setB (t := 10) rfl hc ?_
   refine Run.condF rfl ?_
   refine Run.exit ?_
   obtain rfl := some_inj h
   refine LoopPost.out nofun ?_
   exact Leaf.done (XOne.mk ⟨⟨rfl, rfl, rfl, trivial⟩, ⟨rfl, trivial⟩⟩)
 ·intro e0 st0 hX
  rcases hX with ⟨hX⟩
  have hI : Is _ _ _ := hX
  revert hI
  refine fun hI => hI.elim ?_
  intro e H
  refine ro ?_
  refine oc ?_
  refine S.move rfl ?_
  refine oc ?_
  refine S.move rfl ?_
  refine oc ?_
  refine S.lenLM rfl ?_
  obtain ⟨v7, h_v7, h⟩ := bnd_some h
  refine oc ?_
  refine S.iaddrSubM rfl rfl (getS_in h_v7) ?_
  refine oc ?_
  refine S.loadEM rfl rfl (getS_at h_v7) rfl ?_
  refine oc ?_
  refine S.move rfl ?_
  refine oc ?_
  refine S.add rfl rfl rfl ?_
  obtain ⟨v8, h_v8, h⟩ := bnd_some h
  refine oc ?_
  refine S.iaddrSubM rfl rfl (putS_in h_v8) ?_
  refine oc ?_
  refine S.putM rfl rfl rfl rfl rfl rfl (by decide) (putS_at h_v8) (fun _ => rfl) ?_
  refine oz ?_
  obtain rfl := some_inj h
  exact ⟨.inr rfl, rfl, .inl ⟨rfl, rfl⟩⟩

theorem r86 (a0 : T_nat_Nat) (a1 : Int) (r : T_nat_Nat) (h : nat_Nat_Shr a0 a1 = some r) : Fn Try.prog 86 [.agg (c_nat_Nat a0), .int .i64 a1] (.agg (c_nat_Nat r)) := by
 unfold nat_Nat_Shr at h
 refine Fn.ofS hm Try.func86 t86 (Nat.le_of_ble_eq_true rfl) ?_
 refine rs ?_
 refine ro ?_
 refine oc ?_
 refine S.box rfl rfl rfl rfl ?_
 refine oc ?_
 refine S.alloc rfl ?_
 refine oz ?_
 refine rs ?_
 refine rs ?_
 refine ro ?_
 refine oc ?_
 refine S.move rfl ?_
 refine oc ?_
 refine S.leq rfl rfl rfl ?_
 refine oz ?_
 rcases ite_some h with ⟨hc, h⟩ | ⟨hc, h⟩
 ·refine Run.setB (t := 11) rfl hc ?_
  refine Run.condT rfl ?_
  refine rs ?_
  refine ro ?_
  refine oc ?_
  refine S.loadP rfl rfl rfl ?_
  refine oc ?_
  refine S.storeP rfl rfl rfl rfl rfl rfl (Nat.le_of_ble_eq_true rfl) rfl ?_
  refine oz ?_
  refine Run.ret ?_
  obtain rfl := some_inj h
  exact FinS.fin (End.cell rfl rfl rfl rfl rfl)
 ·refine Run.setB (t := 11) rfl hc ?_
  refine Run.condF rfl ?_
  refine Run.skip ?_
  refine rs ?_
  refine ro ?_
  refine oc ?_
  refine S.move rfl ?_
  refine oc ?_
  refine S.quo rfl rfl (by decide) rfl ?_
  refine oc ?_
  refine S.move rfl ?_
  refine oc ?_
  refine S.rem rfl rfl (by decide) rfl ?_
  refine oc ?_
  refine S.toInt rfl rfl ?_
  refine oc ?_
  refine S.move rfl ?_
  refine oc ?_
  refine S.move rfl ?_
  refine oz ?_
  refine Run.cutJ (J := fun st => ∃ g2 g4 : Nat, Is [(2, .ptr 2 g2 0), (4, .ptr 4 g4 0), (5, .int .i64 (wrap .i64 (Int.tdiv a1 32))), (6, .int .u64 (wrap .u64 (Int.tmod a1 32)))] [(2, g2, some (.box [.sl (List.map c_u32 a0)])), (4, g4, some (.box [.nil]))] st) ⟨_, _, ⟨rfl, rfl, rfl, rfl, trivial⟩, ⟨rfl, rfl, trivial⟩⟩ ?_
  rintro st ⟨g2, g4, hI⟩
  have hI : Is _ _ _ := hI
  revert hI
  refine fun hI => hI.elim ?_
  intro e H
  refine rs ?_
  refine rs ?_
  refine ro ?_
  refine oc ?_
  refine S.move rfl ?_
  refine oc ?_
  refine S.faddrP rfl rfl ?_
  refine oc ?_
  refine S.loadP rfl rfl rfl ?_
  refine oc ?_
  refine S.lenLM rfl ?_
  refine oc ?_
  refine S.geq rfl rfl rfl ?_
  refine oz ?_
  rcases ite_some h with ⟨hc, h⟩ | ⟨hc, h⟩
  ·refine Run.setB (t := 22) rfl hc ?_
   refine Run.condT rfl ?_
   refine rs ?_
   refine ro ?_
   refine oc ?_
   refine S.build (And.intro rfl rfl) rfl ?_
   refine oc ?_
   refine S.storeP rfl rfl rfl rfl rfl rfl (Nat.le_of_ble_eq_true rfl) rfl ?_
   refine oz ?_
   refine Run.ret ?_
   obtain rfl := some_inj h
   exact FinS.fin (End.cell rfl rfl rfl rfl rfl)
  ·refine Run.setB (t := 22) rfl hc ?_
   refine Run.condF rfl ?_
   refine Run.skip ?_
   refine rs ?_
   refine ro ?_
   refine oc ?_
   refine S.faddrP rfl rfl ?_
   refine oc ?_
   refine S.loadP rfl rfl rfl ?_
   refine oc ?_
   refine S.lenLM rfl ?_
   refine oc ?_
   refine S.move rfl ?_
   refine oc ?_
   refine S.sub rfl rfl rfl ?_
   obtain ⟨v1, h_v1, h⟩ := bnd_some h
   refine oc ?_
   refine S.mkSlM (c := c_u32) rfl rfl h_v1 rfl rfl ?_
   refine oc ?_
   refine S.move rfl ?_
   refine oz ?_
   refine Run.cutJ (J := fun st => ∃ g2 g4 g29 : Nat, Is [(2, .ptr 2 g2 0), (4, .ptr 4 g4 0), (5, .int .i64 (wrap .i64 (Int.tdiv a1 32))), (6, .int .u64 (wrap .u64 (Int.tmod a1 32))), (7, .view 29 g29 1 (List.map c_u32 v1).length)] [(2, g2, some (.box [.sl (List.map c_u32 a0)])), (4, g4, some (.box [.nil])), (29, g29, some (.arr 83 1 (List.map c_u32 v1)))] st) ⟨_, _, _, ⟨rfl, rfl, rfl, rfl, rfl, trivial⟩, ⟨rfl, rfl, rfl, trivial⟩⟩ ?_
   rintro st ⟨g2, g4, g29, hI⟩
   have hI : Is _ _ _ := hI
   revert hI
   refine fun hI => hI.elim ?_
   intro e H
   refine rs ?_
   refine rs ?_
   refine ro ?_
   refine oc ?_
   refine S.move rfl ?_
   refine oc ?_
   refine S.lenVM rfl ?_
   refine oc ?_
   refine S.move rfl ?_
   refine oz ?_
   refine Run.block ?_
   obtain ⟨x8, hx, h⟩ := bnd_some h
   refine Run.iter (I := (fun (s : Int × List Int) (st : St) => ∃ g2 g4 g29 : Nat, Is [(2, .ptr 2 g2 0), (4, .ptr 4 g4 0), (5, .int .i64 (wrap .i64 (Int.tdiv a1 32))), (6, .int .u64 (wrap .u64 (Int.tmod a1 32))), (7, .view 29 g29 1 (List.map c_u32 s.2).length), (31, .int .i64 (v1.length : Int)), (32, .int .i64 s.1)] [(2, g2, some (.box [.sl (List.map c_u32 a0)])), (4, g4, some (.box [.nil])), (29, g29, some (.arr 83 1 (List.map c_u32 s.2)))] st)) (X := (XOne (.exit 0) (fun (x : List Int) (st : St) => ∃ g4 g29 : Nat, Is [(4, .ptr 4 g4 0), (7, .view 29 g29 1 (List.map c_u32 x).length)] [(4, g4, some (.box [.nil])), (29, g29, some (.arr 83 1 (List.map c_u32 x)))] st))) hx ?_ ?_ ?_
   ·exact ⟨_, _, _, ⟨rfl, rfl, rfl, rfl, rfl, rfl, rfl, trivial⟩, ⟨rfl, rfl, rfl, trivial⟩⟩
   ·rintro s2 st ⟨g2, g4, g29, hI⟩ o h
    have hI : Is _ _ _ := hI
    revert hI
    refine fun hI => hI.elim ?_
    intro e H
    refine rs ?_
    refine ro ?_
    refine oc ?_
    refine S.lss rfl rfl rfl ?_
    refine oz ?_
    refine rs ?_
    rcases ite_some h with ⟨hc, h⟩ | ⟨hc, h⟩
    ·refine Run.setB (t := 33) rfl hc ?_
     refine Run.condT rfl ?_
     refine Run.skip ?_
     refine rs ?_
     refine Run.block ?_
     refine rs ?_
     refine ro ?_
     refine oc ?_
     refine S.move rfl ?_
     refine oc ?_
     refine S.move rfl ?_
     refine oz ?_
     refine rs ?_
     refine ro ?_
     refine oc ?_
     refine S.faddrP rfl rfl ?_
     refine oc ?_
     refine S.loadP rfl rfl rfl ?_
     refine oc ?_
     refine S.move rfl ?_
     refine oc ?_
     refine S.move rfl ?_
     refine oc ?_
     refine S.add rfl rfl rfl ?_
     obtain ⟨v3, h_v3, h⟩ := bnd_some h
     refine oc ?_
     refine S.iaddrLM (c := c_u32) rfl rfl h_v3 (fun _ => rfl) ?_
     refine oc ?_
     refine S.loadC rfl rfl ?_
     refine oc ?_
     refine S.toInt rfl rfl ?_
     refine oc ?_
     refine S.move rfl ?_
     refine oz ?_
     refine Run.cutJ (J := fun st => ∃ g2 g4 g29 : Nat, Is [(2, .ptr 2 g2 0), (4, .ptr 4 g4 0), (5, .int .i64 (wrap .i64 (Int.tdiv a1 32))), (6, .int .u64 (wrap .u64 (Int.tmod a1 32))), (7, .view 29 g29 1 (List.map c_u32 s2.2).length), (8, .int .i64 s2.1), (9, .int .u64 (wrap .u64 v3)), (31, .int .i64 (v1.length : Int)), (32, .int .i64 s2.1)] [(2, g2, some (.box [.sl (List.map c_u32 a0)])), (4, g4, some (.box [.nil])), (29, g29, some (.arr 83 1 (List.map c_u32 s2.2)))] st) ⟨_, _, _, ⟨rfl, rfl, rfl, rfl, rfl, rfl, rfl, rfl, rfl, trivial⟩, ⟨rfl, rfl, rfl, trivial⟩⟩ ?_
     rintro st ⟨g2, g4, g29, hI⟩
     have hI : Is _ _ _ := hI
     revert hI
     refine fun hI => hI.elim ?_
     intro e H
     refine rs ?_
     obtain ⟨x5, hx, h⟩ := bnd_some h
     refine Run.joinG (X := (XOne .normal (fun (x : Int) (st : St) => ∃ g2 g4 g29 : Nat, Is [(2, .ptr 2 g2 0), (4, .ptr 4 g4 0), (5, .int .i64 (wrap .i64 (Int.tdiv a1 32))), (6, .int .u64 (wrap .u64 (Int.tmod a1 32))), (7, .view 29 g29 1 (List.map c_u32 s2.2).length), (8, .int .i64 s2.1), (9, .int .u64 x), (31, .int .i64 (v1.length : Int)), (32, .int .i64 s2.1)] [(2, g2, some (.box [.sl (List.map c_u32 a0)])), (4, g4, some (.box [.nil])), (29, g29, some (.arr 83 1 (List.map c_u32 s2.2)))] st))) (x := x5) ?_ ?_
     ·replace h := hx
      refine rs ?_
      refine ro ?_
      refine oc ?_
      refine S.move rfl ?_
      refine oc ?_
      refine S.move rfl ?_
      refine oc ?_
      refine S.add rfl rfl rfl ?_
      refine oc ?_
      refine S.add rfl rfl rfl ?_
      refine oc ?_
      refine S.faddrP rfl rfl ?_
      refine oc ?_
      refine S.loadP rfl rfl rfl ?_
      refine oc ?_
      refine S.lenLM rfl ?_
      refine oc ?_
      refine S.lss rfl rfl rfl ?_
      refine oz ?_
      rcases ite_some h with ⟨hc, h⟩ | ⟨hc, h⟩
      ·refine Run.setB (t := 50) rfl hc ?_
       refine Run.condT rfl ?_
       refine ro ?_
       refine oc ?_
       refine S.move rfl ?_
       refine oc ?_
       refine S.faddrP rfl rfl ?_
       refine oc ?_
       refine S.loadP rfl rfl rfl ?_
       refine oc ?_
       refine S.move rfl ?_
       refine oc ?_
       refine S.move rfl ?_
       refine oc ?_
       refine S.add rfl rfl rfl ?_
       refine oc ?_
       refine S.add rfl rfl rfl ?_
       obtain ⟨v4, h_v4, h⟩ := bnd_some h
       refine oc ?_
       refine S.iaddrLM (c := c_u32) rfl rfl h_v4 (fun _ => rfl) ?_
       refine oc ?_
       refine S.loadC rfl rfl ?_
       refine oc ?_
       refine S.toInt rfl rfl ?_
       refine oc ?_
       refine S.shl rfl rfl (by decide) rfl ?_
       refine oc ?_
       refine S.or rfl rfl rfl ?_
       refine oc ?_
       refine S.move rfl ?_
       refine oz ?_
       obtain rfl := some_inj h
       refine JP.mk ?_
       exact Leaf.done (XOne.mk ⟨_, _, _, ⟨rfl, rfl, rfl, rfl, rfl, rfl, rfl, rfl, rfl, trivial⟩, ⟨rfl, rfl, rfl, trivial⟩⟩)
      ·refine Run.setB (t := 50) rfl hc ?_
       refine Run.condF rfl ?_
       refine Run.skip ?_
       obtain rfl := some_inj h
       refine JP.mk ?_
       exact Leaf.done (XOne.mk ⟨_, _, _, ⟨rfl, rfl, rfl, rfl, rfl, rfl, rfl, rfl, rfl, trivial⟩, ⟨rfl, rfl, rfl, trivial⟩⟩)
     ·intro e0 st0 hX
      rcases hX with ⟨hX⟩
      obtain ⟨g2, g4, g29, hI⟩ := hX
      revert hI
      refine fun hI => hI.elim ?_
      intro e H
      refine ro ?_
      refine oc ?_
      refine S.move rfl ?_
      refine oc ?_
      refine S.move rfl ?_
      refine oc ?_
      refine S.move rfl ?_
      refine oc ?_
      refine S.move rfl ?_
      obtain ⟨v6, h_v6, h⟩ := bnd_some h
      refine oc ?_
      refine S.shr rfl rfl (chk_some h_v6) rfl ?_
      refine oc ?_
      refine S.toInt rfl rfl ?_
      obtain ⟨v7, h_v7, h⟩ := bnd_some h
      refine oc ?_
      refine S.iaddrVM (c := c_u32) rfl rfl (put_in h_v7) ?_
      refine oc ?_
      refine S.putM rfl rfl rfl rfl rfl rfl (by decide) (put_at h_v7) (fun _ => rfl) ?_
      refine OpsR.retell (t := 7) rfl (lenPut c_u32 (put_at h_v7)) ?_
      refine oz ?_
      refine ro ?_
      refine oc ?_
      refine S.add rfl rfl rfl ?_
      refine oc ?_
      refine S.move rfl ?_
      refine oz ?_
      obtain rfl := some_inj h
      refine LoopPost.next ?_
      exact Leaf.done ⟨_, _, _, ⟨rfl, rfl, rfl, rfl, rfl, rfl, rfl, trivial⟩, ⟨rfl, rfl, rfl, trivial⟩⟩
    ·refine Run.setB (t := 33) rfl hc ?_
     refine Run.condF rfl ?_
     refine Run.exit ?_
     obtain rfl := some_inj h
     refine LoopPost.out nofun ?_
     exact Leaf.done (XOne.mk ⟨_, _, ⟨rfl, rfl, trivial⟩, ⟨rfl, rfl, trivial⟩⟩)
   ·intro e0 st0 hX
    rcases hX with ⟨hX⟩
    obtain ⟨g4, g29, hI⟩ := hX
    revert hI
    refine fun hI => hI.elim ?_
    intro e H
    refine rs ?_
    refine ro ?_
    refine oc ?_
    refine S.move rfl ?_
    obtain ⟨v9, h_v9, h⟩ := bnd_some h
    refine oc ?_
    refine S.call (And.intro rfl (And.intro rfl (And.intro rfl (And.intro rfl rfl)))) (r58 x8 _ h_v9) rfl ?_
    refine oc ?_
    refine S.storeP rfl rfl rfl rfl rfl rfl (Nat.le_of_ble_eq_true rfl) rfl ?_
    refine oz ?_
    refine Run.ret ?_
    obtain rfl := some_inj h
    exact FinS.fin (End.cell rfl rfl rfl rfl rfl)

theorem r74 (a0 : T_nat_Nat) (a1 : T_nat_Nat) (r : T_nat_Nat × T_nat_Nat) (h : nat_long a0 a1 = some r) : Fn Try.prog 74 [.agg (c_nat_Nat a0), .agg (c_nat_Nat a1)] (.tup [.agg (c_nat_Nat r.1), .agg (c_nat_Nat r.2)]) := by
 unfold nat_long at h
 refine Fn.ofS hm Try.func74 t74 (Nat.le_of_ble_eq_true rfl) ?_
 refine rs ?_
 refine ro ?_
 refine oc ?_
 refine S.box rfl rfl rfl rfl ?_
 refine oc ?_
 refine S.box rfl rfl rfl rfl ?_
 refine oc ?_
 refine S.alloc rfl ?_
 refine oc ?_
 refine S.alloc rfl ?_
 refine oz ?_
 refine rs ?_
 refine ro ?_
 refine oc ?_
 refine S.faddrP rfl rfl ?_
 refine oc ?_
 refine S.loadP rfl rfl rfl ?_
 refine oc ?_
 refine S.faddrP rfl rfl ?_
 refine oc ?_
 refine S.loadP rfl rfl rfl ?_
 refine oc ?_
 refine S.lenLM rfl ?_
 refine oc ?_
 refine S.sub rfl rfl rfl ?_
 obtain ⟨v1, h_v1, h⟩ := bnd_some h
 refine oc ?_
 refine S.iaddrLM (c := c_u32) rfl rfl h_v1 (fun _ => rfl) ?_
 refine oc ?_
 refine S.loadC rfl rfl ?_
 obtain ⟨v2, h_v2, h⟩ := bnd_some h
 refine oc ?_
 refine S.call (And.intro rfl rfl) (r82 v1 _ h_v2) rfl ?_
 refine oc ?_
 refine S.move rfl ?_
 refine oz ?_
 refine Run.cutJ (J := fun st => ∃ g2 g3 g4 g5 : Nat, Is [(2, .ptr 2 g2 0), (3, .ptr 3 g3 0), (4, .ptr 4 g4 0), (5, .ptr 5 g5 0), (6, .int .i64 v2)] [(2, g2, some (.box [.sl (List.map c_u32 a0)])), (3, g3, some (.box [.sl (List.map c_u32 a1)])), (4, g4, some (.box [.nil])), (5, g5, some (.box [.nil]))] st) ⟨_, _, _, _, ⟨rfl, rfl, rfl, rfl, rfl, trivial⟩, ⟨rfl, rfl, rfl, rfl, trivial⟩⟩ ?_
 rintro st ⟨g2, g3, g4, g5, hI⟩
 have hI : Is _ _ _ := hI
 revert hI
 refine fun hI => hI.elim ?_
 intro e H
 refine rs ?_
 refine ro ?_
 refine oc ?_
 refine S.loadP rfl rfl rfl ?_
 refine oc ?_
 refine S.move rfl ?_
 obtain ⟨v3, h_v3, h⟩ := bnd_some h
 refine oc ?_
 refine S.call (And.intro rfl rfl) (r83 a1 v2 _ h_v3) rfl ?_
 refine oc ?_
 refine S.field rfl rfl ?_
 refine oc ?_
 refine S.move rfl ?_
 refine oz ?_
 refine rs ?_
 refine ro ?_
 refine oc ?_
 refine S.faddrP rfl rfl ?_
 refine oc ?_
 refine S.loadP rfl rfl rfl ?_
 refine oc ?_
 refine S.lenLM rfl ?_
 refine oc ?_
 refine S.add rfl rfl rfl ?_
 obtain ⟨v4, h_v4, h⟩ := bnd_some h
 refine oc ?_
 refine S.mkSlM (c := c_u32) rfl rfl h_v4 rfl rfl ?_
 refine oc ?_
 refine S.move rfl ?_
 refine oz ?_
 refine rs ?_
 refine ro ?_
 refine oc ?_
 refine S.move rfl ?_
 refine oc ?_
 refine S.loadP rfl rfl rfl ?_
 refine oc ?_
 refine S.move rfl ?_
 obtain ⟨v5, h_v5, h⟩ := bnd_some h
 refine oc ?_
 refine S.call (And.intro rfl rfl) (r83 a0 v2 _ h_v5) rfl ?_
 refine oc ?_
 refine S.field rfl rfl ?_
 refine oc ?_
 refine S.copyM (c := c_u32) rfl rfl rfl rfl (fun _ => rfl) ?_
 refine OpsR.retell (t := 8) rfl (lenCpy c_u32 v4 v5) ?_
 refine oz ?_
 refine Run.cutJ (J := fun st => ∃ g2 g3 g4 g5 g35 : Nat, Is [(2, .ptr 2 g2 0), (3, .ptr 3 g3 0), (4, .ptr 4 g4 0), (5, .ptr 5 g5 0), (6, .int .i64 v2), (7, .sl (List.map c_u32 v3)), (8, .view 35 g35 1 (List.map c_u32 (cpy v4 v5)).length)] [(2, g2, some (.box [.sl (List.map c_u32 a0)])), (3, g3, some (.box [.sl (List.map c_u32 a1)])), (4, g4, some (.box [.nil])), (5, g5, some (.box [.nil])), (35, g35, some (.arr 83 1 (List.map c_u32 (cpy v4 v5))))] st) ⟨_, _, _, _, _, ⟨rfl, rfl, rfl, rfl, rfl, rfl, rfl, trivial⟩, ⟨rfl, rfl, rfl, rfl, rfl, trivial⟩⟩ ?_
 rintro st ⟨g2, g3, g4, g5, g35, hI⟩
 have hI : Is _ _ _ := hI
 revert hI
 refine fun hI => hI.elim ?_
 intro e H
 refine rs ?_
 refine Run.drawn ?_
 refine d0 rfl ?_
 refine S.move rfl ?_
 refine d0 rfl ?_
 refine S.lenLM rfl ?_
 refine d0 rfl ?_
 refine S.faddrP rfl rfl ?_
 refine d1 (x := (_, _)) rfl rfl ?_
 refine S.loadP rfl rfl rfl ?_
 refine d0 rfl ?_
 refine S.lenLM rfl ?_
 refine d0 rfl ?_
 refine S.faddrP rfl rfl ?_
 refine d1 (x := (_, _)) rfl rfl ?_
 refine S.loadP rfl rfl rfl ?_
 refine d0 rfl ?_
 refine S.lenLM rfl ?_
 refine d0 rfl ?_
 refine S.sub rfl rfl rfl ?_
 refine d0 rfl ?_
 refine S.move rfl ?_
 refine d0 rfl ?_
 refine S.move rfl ?_
 refine DrawR.nil ?_
 refine rs ?_
 refine ro ?_
 refine oc ?_
 refine S.move rfl ?_
 refine oc ?_
 refine S.add rfl rfl rfl ?_
 obtain ⟨v6, h_v6, h⟩ := bnd_some h
 refine oc ?_
 refine S.mkSlM (c := c_u32) rfl rfl h_v6 rfl rfl ?_
 refine oc ?_
 refine S.move rfl ?_
 refine oz ?_
 refine Run.cutJ (J := fun st => ∃ g4 g5 g35 g53 : Nat, Is [(4, .ptr 4 g4 0), (5, .ptr 5 g5 0), (6, .int .i64 v2), (7, .sl (List.map c_u32 v3)), (8, .view 35 g35 1 (List.map c_u32 (cpy v4 v5)).length), (9, .int .i64 (v3.length : Int)), (10, .int .i64 (wrap .i64 ((a0.length : Int) - (a1.length : Int)))), (11, .view 53 g53 1 (List.map c_u32 v6).length)] [(4, g4, some (.box [.nil])), (5, g5, some (.box [.nil])), (35, g35, some (.arr 83 1 (List.map c_u32 (cpy v4 v5)))), (53, g53, some (.arr 83 1 (List.map c_u32 v6)))] st) ⟨_, _, _, _, ⟨rfl, rfl, rfl, rfl, rfl, rfl, rfl, rfl, trivial⟩, ⟨rfl, rfl, rfl, rfl, trivial⟩⟩ ?_
 rintro st ⟨g4, g5, g35, g53, hI⟩
 have hI : Is _ _ _ := hI
 revert hI
 refine fun hI => hI.elim ?_
 intro e H
 refine rs ?_
 refine Run.drawn ?_
 refine d0 rfl ?_
 refine S.move rfl ?_
 refine d0 rfl ?_
 refine S.move rfl ?_
 refine d0 rfl ?_
 refine S.sub rfl rfl rfl ?_
 obtain ⟨v7, h_v7, h⟩ := bnd_some h
 refine d0 rfl ?_
 refine S.iaddrLM (c := c_u32) rfl rfl h_v7 (fun _ => rfl) ?_
 refine d0 rfl ?_
 refine S.loadC rfl rfl ?_
 refine d0 rfl ?_
 refine S.toInt rfl rfl ?_
 refine d0 rfl ?_
 refine S.move rfl ?_
 refine d0 rfl ?_
 refine S.move rfl ?_
 refine d0 rfl ?_
 refine S.sub rfl rfl rfl ?_
 obtain ⟨v8, h_v8, h⟩ := bnd_some h
 refine d0 rfl ?_
 refine S.iaddrLM (c := c_u32) rfl rfl h_v8 (fun _ => rfl) ?_
 refine d0 rfl ?_
 refine S.loadC rfl rfl ?_
 refine d0 rfl ?_
 refine S.toInt rfl rfl ?_
 refine d0 rfl ?_
 refine S.move rfl ?_
 refine d0 rfl ?_
 refine S.move rfl ?_
 refine DrawR.nil ?_
 refine Run.cutJ (J := fun st => ∃ g4 g5 g35 g53 : Nat, Is [(4, .ptr 4 g4 0), (5, .ptr 5 g5 0), (6, .int .i64 v2), (7, .sl (List.map c_u32 v3)), (8, .view 35 g35 1 (List.map c_u32 (cpy v4 v5)).length), (9, .int .i64 (v3.length : Int)), (10, .int .i64 (wrap .i64 ((a0.length : Int) - (a1.length : Int)))), (11, .view 53 g53 1 (List.map c_u32 v6).length), (12, .int .u64 (wrap .u64 v7)), (13, .int .u64 (wrap .u64 v8))] [(4, g4, some (.box [.nil])), (5, g5, some (.box [.nil])), (35, g35, some (.arr 83 1 (List.map c_u32 (cpy v4 v5)))), (53, g53, some (.arr 83 1 (List.map c_u32 v6)))] st) ⟨_, _, _, _, ⟨rfl, rfl, rfl, rfl, rfl, rfl, rfl, rfl, rfl, rfl, trivial⟩, ⟨rfl, rfl, rfl, rfl, trivial⟩⟩ ?_
 rintro st ⟨g4, g5, g35, g53, hI⟩
 have hI : Is _ _ _ := hI
 revert hI
 refine fun hI => hI.elim ?_
 intro e H
 refine rs ?_
 refine rs ?_
 refine ro ?_
 refine oc ?_
 refine S.move rfl ?_
 refine oc ?_
 refine S.move rfl ?_
 refine oz ?_
 refine Run.block ?_
 obtain ⟨x26, hx, h⟩ := bnd_some h
 refine Run.iter (I := (fun (s : Int × List Int × List Int) (st : St) => ∃ g4 g5 g35 g53 : Nat, Is [(4, .ptr 4 g4 0), (5, .ptr 5 g5 0), (6, .int .i64 v2), (7, .sl (List.map c_u32 v3)), (8, .view 35 g35 1 (List.map c_u32 s.2.1).length), (9, .int .i64 (v3.length : Int)), (11, .view 53 g53 1 (List.map c_u32 s.2.2).length), (12, .int .u64 (wrap .u64 v7)), (13, .int .u64 (wrap .u64 v8)), (14, .int .i64 s.1)] [(4, g4, some (.box [.nil])), (5, g5, some (.box [.nil])), (35, g35, some (.arr 83 1 (List.map c_u32 s.2.1))), (53, g53, some (.arr 83 1 (List.map c_u32 s.2.2)))] st)) (X := (XOne (.exit 0) (fun (x : List Int × List Int) (st : St) => ∃ g4 g5 g35 g53 : Nat, Is [(4, .ptr 4 g4 0), (5, .ptr 5 g5 0), (6, .int .i64 v2), (8, .view 35 g35 1 (List.map c_u32 x.1).length), (11, .view 53 g53 1 (List.map c_u32 x.2).length)] [(4, g4, some (.box [.nil])), (5, g5, some (.box [.nil])), (35, g35, some (.arr 83 1 (List.map c_u32 x.1))), (53, g53, some (.arr 83 1 (List.map c_u32 x.2)))] st))) hx ?_ ?_ ?_
 ·exact ⟨_, _, _, _, ⟨rfl, rfl, rfl, rfl, rfl, rfl, rfl, rfl, rfl, rfl, trivial⟩, ⟨rfl, rfl, rfl, rfl, trivial⟩⟩
 ·rintro s9 st ⟨g4, g5, g35, g53, hI⟩ o h
  have hI : Is _ _ _ := hI
  revert hI
  refine fun hI => hI.elim ?_
  intro e H
  refine rs ?_
  refine rs ?_
  refine ro ?_
  refine oc ?_
  refine S.move rfl ?_
  refine oc ?_
  refine S.geq rfl rfl rfl ?_
  refine oz ?_
  rcases ite_some h with ⟨hc, h⟩ | ⟨hc, h⟩
  ·refine Run.setB (t := 68) rfl hc ?_
   refine Run.condT rfl ?_
   refine Run.skip ?_
   refine rs ?_
   refine Run.block ?_
   refine rs ?_
   refine Run.drawn ?_
   refine d0 rfl ?_
   refine S.move rfl ?_
   refine d0 rfl ?_
   refine S.move rfl ?_
   refine d0 rfl ?_
   refine S.move rfl ?_
   refine d0 rfl ?_
   refine S.add rfl rfl rfl ?_
   obtain ⟨v10, h_v10, h⟩ := bnd_some h
   refine d0 rfl ?_
   refine S.iaddrVM (c := c_u32) rfl rfl (get_in h_v10) ?_
   refine d1 (x := (_, _)) rfl rfl ?_
   refine S.loadEM rfl rfl (get_at h_v10) rfl ?_
   refine d0 rfl ?_
   refine S.toInt rfl rfl ?_
   refine d0 rfl ?_
   refine S.shl rfl rfl (by decide) rfl ?_
   refine d0 rfl ?_
   refine S.move rfl ?_
   refine d0 rfl ?_
   refine S.move rfl ?_
   refine d0 rfl ?_
   refine S.move rfl ?_
   refine d0 rfl ?_
   refine S.add rfl rfl rfl ?_
   refine d0 rfl ?_
   refine S.sub rfl rfl rfl ?_
   obtain ⟨v11, h_v11, h⟩ := bnd_some h
   refine d0 rfl ?_
   refine S.iaddrVM (c := c_u32) rfl rfl (get_in h_v11) ?_
   refine d1 (x := (_, _)) rfl rfl ?_
   refine S.loadEM rfl rfl (get_at h_v11) rfl ?_
   refine d0 rfl ?_
   refine S.toInt rfl rfl ?_
   refine d0 rfl ?_
   refine S.or rfl rfl rfl ?_
   refine d0 rfl ?_
   refine S.move rfl ?_
   refine DrawR.nil ?_
   refine Run.cutJ (J := fun st => ∃ g4 g5 g35 g53 : Nat, Is [(4, .ptr 4 g4 0), (5, .ptr 5 g5 0), (6, .int .i64 v2), (7, .sl (List.map c_u32 v3)), (8, .view 35 g35 1 (List.map c_u32 s9.2.1).length), (9, .int .i64 (v3.length : Int)), (11, .view 53 g53 1 (List.map c_u32 s9.2.2).length), (12, .int .u64 (wrap .u64 v7)), (13, .int .u64 (wrap .u64 v8)), (14, .int .i64 s9.1), (15, .int .u64 (bor .u64 (shl .u64 (wrap .u64 v10) 32) (wrap .u64 v11)))] [(4, g4, some (.box [.nil])), (5, g5, some (.box [.nil])), (35, g35, some (.arr 83 1 (List.map c_u32 s9.2.1))), (53, g53, some (.arr 83 1 (List.map c_u32 s9.2.2)))] st) ⟨_, _, _, _, ⟨rfl, rfl, rfl, rfl, rfl, rfl, rfl, rfl, rfl, rfl, rfl, trivial⟩, ⟨rfl, rfl, rfl, rfl, trivial⟩⟩ ?_
   rintro st ⟨g4, g5, g35, g53, hI⟩
   have hI : Is _ _ _ := hI
   revert hI
   refine fun hI => hI.elim ?_
   intro e H
   refine rs ?_
   refine Run.drawn ?_
   refine d0 rfl ?_
   refine S.move rfl ?_
   refine d0 rfl ?_
   refine S.move rfl ?_
   obtain ⟨v12, h_v12, h⟩ := bnd_some h
   refine d0 rfl ?_
   refine S.quo rfl rfl (chk_some h_v12) rfl ?_
   refine d0 rfl ?_
   refine S.move rfl ?_
   refine d0 rfl ?_
   refine S.move rfl ?_
   obtain ⟨v13, h_v13, h⟩ := bnd_some h
   refine d0 rfl ?_
   refine S.rem rfl rfl (chk_some h_v13) rfl ?_
   refine d0 rfl ?_
   refine S.move rfl ?_
   refine d0 rfl ?_
   refine S.move rfl ?_
   refine DrawR.nil ?_
   refine rs ?_
   refine Run.block ?_
   obtain ⟨x17, hx, h⟩ := bnd_some h
   refine Run.iter (I := (fun (s : Int × Int) (st : St) => ∃ g4 g5 g35 g53 : Nat, Is [(4, .ptr 4 g4 0), (5, .ptr 5 g5 0), (6, .int .i64 v2), (7, .sl (List.map c_u32 v3)), (8, .view 35 g35 1 (List.map c_u32 s9.2.1).length), (9, .int .i64 (v3.length : Int)), (11, .view 53 g53 1 (List.map c_u32 s9.2.2).length), (12, .int .u64 (wrap .u64 v7)), (13, .int .u64 (wrap .u64 v8)), (14, .int .i64 s9.1), (16, .int .u64 s.1), (17, .int .u64 s.2)] [(4, g4, some (.box [.nil])), (5, g5, some (.box [.nil])), (35, g35, some (.arr 83 1 (List.map c_u32 s9.2.1))), (53, g53, some (.arr 83 1 (List.map c_u32 s9.2.2)))] st)) (X := (XOne (.exit 2) (fun (x : Int) (st : St) => ∃ g4 g5 g35 g53 : Nat, Is [(4, .ptr 4 g4 0), (5, .ptr 5 g5 0), (6, .int .i64 v2), (7, .sl (List.map c_u32 v3)), (8, .view 35 g35 1 (List.map c_u32 s9.2.1).length), (9, .int .i64 (v3.length : Int)), (11, .view 53 g53 1 (List.map c_u32 s9.2.2).length), (12, .int .u64 (wrap .u64 v7)), (13, .int .u64 (wrap .u64 v8)), (14, .int .i64 s9.1), (16, .int .u64 x)] [(4, g4, some (.box [.nil])), (5, g5, some (.box [.nil])), (35, g35, some (.arr 83 1 (List.map c_u32 s9.2.1))), (53, g53, some (.arr 83 1 (List.map c_u32 s9.2.2)))] st))) hx ?_ ?_ ?_
   ·exact ⟨_, _, _, _, ⟨rfl, rfl, rfl, rfl, rfl, rfl, rfl, rfl, rfl, rfl, rfl, rfl, trivial⟩, ⟨rfl, rfl, rfl, rfl, trivial⟩⟩
   ·rintro s14 st ⟨g4, g5, g35, g53, hI⟩ o h
    have hI : Is _ _ _ := hI
    revert hI
    refine fun hI => hI.elim ?_
    intro e H
    refine rs ?_
    refine rs ?_
    refine ro ?_
    refine oc ?_
    refine S.move rfl ?_
    refine oc ?_
    refine S.geq rfl rfl rfl ?_
    refine oc ?_
    refine S.move rfl ?_
    obtain ⟨x16, hx, h⟩ := bnd_some h
    refine OpsR.splitAt 16 (J := fun st => ∃ g4 g5 g35 g53 : Nat, Is [(4, .ptr 4 g4 0), (5, .ptr 5 g5 0), (6, .int .i64 v2), (7, .sl (List.map c_u32 v3)), (8, .view 35 g35 1 (List.map c_u32 s9.2.1).length), (9, .int .i64 (v3.length : Int)), (11, .view 53 g53 1 (List.map c_u32 s9.2.2).length), (12, .int .u64 (wrap .u64 v7)), (13, .int .u64 (wrap .u64 v8)), (14, .int .i64 s9.1), (16, .int .u64 s14.1), (17, .int .u64 s14.2), (112, .bool x16)] [(4, g4, some (.box [.nil])), (5, g5, some (.box [.nil])), (35, g35, some (.arr 83 1 (List.map c_u32 s9.2.1))), (53, g53, some (.arr 83 1 (List.map c_u32 s9.2.2)))] st) ?_ ?_
    ·replace h := hx
     rcases ite_some h with ⟨hc, h⟩ | ⟨hc, h⟩
     ·refine OpsR.setB (t := 96) rfl hc ?_
      refine oc ?_
      refine S.off rfl (by decide) ?_
      refine oc ?_
      refine S.off rfl (by decide) ?_
      refine oc ?_
      refine S.off rfl (by decide) ?_
      refine oc ?_
      refine S.off rfl (by decide) ?_
      refine oc ?_
      refine S.off rfl (by decide) ?_
      refine oc ?_
      refine S.off rfl (by decide) ?_
      refine oc ?_
      refine S.off rfl (by decide) ?_
      refine oc ?_
      refine S.off rfl (by decide) ?_
      refine oc ?_
      refine S.off rfl (by decide) ?_
      refine oc ?_
      refine S.off rfl (by decide) ?_
      refine oc ?_
      refine S.off rfl (by decide) ?_
      refine oc ?_
      refine S.off rfl (by decide) ?_
      refine oc ?_
      refine S.off rfl (by decide) ?_
      refine oc ?_
      refine S.off rfl (by decide) ?_
      refine oc ?_
      refine S.off rfl (by decide) ?_
      refine oc ?_
      refine S.pick rfl rfl rfl rfl ?_
      obtain rfl := some_inj h
      refine oz ?_
      exact ⟨_, _, _, _, ⟨rfl, rfl, rfl, rfl, rfl, rfl, rfl, rfl, rfl, rfl, rfl, rfl, rfl, trivial⟩, ⟨rfl, rfl, rfl, rfl, trivial⟩⟩
     ·refine OpsR.setB (t := 96) rfl hc ?_
      refine oc ?_
      refine S.on rfl ?_
      refine S.move rfl ?_
      refine oc ?_
      refine S.on rfl ?_
      refine S.move rfl ?_
      refine oc ?_
      refine S.on rfl ?_
      refine S.mul rfl rfl rfl ?_
      refine oc ?_
      refine S.on rfl ?_
      refine S.move rfl ?_
      refine oc ?_
      refine S.on rfl ?_
      refine S.shl rfl rfl (by decide) rfl ?_
      refine oc ?_
      refine S.on rfl ?_
      refine S.move rfl ?_
      refine oc ?_
      refine S.on rfl ?_
      refine S.move rfl ?_
      refine oc ?_
      refine S.on rfl ?_
      refine S.move rfl ?_
      refine oc ?_
      refine S.on rfl ?_
      refine S.add rfl rfl rfl ?_
      refine oc ?_
      refine S.on rfl ?_
      refine S.sub rfl rfl rfl ?_
      obtain ⟨v15, h_v15, h⟩ := bnd_some h
      refine oc ?_
      refine S.on rfl ?_
      refine S.iaddrVM (c := c_u32) rfl rfl (get_in h_v15) ?_
      refine oc ?_
      refine S.on rfl ?_
      refine S.loadEM rfl rfl (get_at h_v15) rfl ?_
      refine oc ?_
      refine S.on rfl ?_
      refine S.toInt rfl rfl ?_
      refine oc ?_
      refine S.on rfl ?_
      refine S.or rfl rfl rfl ?_
      refine oc ?_
      refine S.on rfl ?_
      refine S.gtr rfl rfl rfl ?_
      refine oc ?_
      refine S.pick rfl rfl rfl rfl ?_
      obtain rfl := some_inj h
      refine oz ?_
      exact ⟨_, _, _, _, ⟨rfl, rfl, rfl, rfl, rfl, rfl, rfl, rfl, rfl, rfl, rfl, rfl, rfl, trivial⟩, ⟨rfl, rfl, rfl, rfl, trivial⟩⟩
    ·rintro st ⟨g4, g5, g35, g53, hI⟩
     have hI : Is _ _ _ := hI
     revert hI
     refine fun hI => hI.elim ?_
     intro e H
     refine oz ?_
     rcases ite_some h with ⟨hc, h⟩ | ⟨hc, h⟩
     ·refine Run.setB (t := 112) rfl hc ?_
      refine Run.condT rfl ?_
      refine Run.skip ?_
      refine Run.block ?_
      refine rs ?_
      refine ro ?_
      refine oc ?_
      refine S.move rfl ?_
      refine oc ?_
      refine S.sub rfl rfl rfl ?_
      refine oc ?_
      refine S.move rfl ?_
      refine oz ?_
      refine rs ?_
      refine ro ?_
      refine oc ?_
      refine S.move rfl ?_
      refine oc ?_
      refine S.move rfl ?_
      refine oc ?_
      refine S.add rfl rfl rfl ?_
      refine oc ?_
      refine S.move rfl ?_
      refine oz ?_
      refine rs ?_
      refine ro ?_
      refine oc ?_
      refine S.move rfl ?_
      refine oc ?_
      refine S.geq rfl rfl rfl ?_
      refine oz ?_
      rcases ite_some h with ⟨hc, h⟩ | ⟨hc, h⟩
      ·refine Run.setB (t := 119) rfl hc ?_
       refine Run.condT rfl ?_
       refine Run.exit ?_
       obtain rfl := some_inj h
       refine LoopPost.out nofun ?_
       exact Leaf.done (XOne.mk ⟨_, _, _, _, ⟨rfl, rfl, rfl, rfl, rfl, rfl, rfl, rfl, rfl, rfl, rfl, trivial⟩, ⟨rfl, rfl, rfl, rfl, trivial⟩⟩)
      ·refine Run.setB (t := 119) rfl hc ?_
       refine Run.condF rfl ?_
       refine Run.skip ?_
       obtain rfl := some_inj h
       refine LoopPost.next ?_
       exact Leaf.done ⟨_, _, _, _, ⟨rfl, rfl, rfl, rfl, rfl, rfl, rfl, rfl, rfl, rfl, rfl, rfl, trivial⟩, ⟨rfl, rfl, rfl, rfl, trivial⟩⟩
     ·refine Run.setB (t := 112) rfl hc ?_
      refine Run.condF rfl ?_
      refine Run.exit ?_
      obtain rfl := some_inj h
      refine LoopPost.out nofun ?_
      exact Leaf.done (XOne.mk ⟨_, _, _, _, ⟨rfl, rfl, rfl, rfl, rfl, rfl, rfl, rfl, rfl, rfl, rfl, trivial⟩, ⟨rfl, rfl, rfl, rfl, trivial⟩⟩)
   ·intro e0 st0 hX
    rcases hX with ⟨hX⟩
    obtain ⟨g4, g5, g35, g53, hI⟩ := hX
    revert hI
    refine fun hI => hI.elim ?_
    intro e H
    refine rs ?_
    obtain ⟨x24, hx, h⟩ := bnd_some h
    refine Run.joinG (X := (XOne .normal (fun (x : Int × List Int) (st : St) => ∃ g4 g5 g35 g53 : Nat, Is [(4, .ptr 4 g4 0), (5, .ptr 5 g5 0), (6, .int .i64 v2), (7, .sl (List.map c_u32 v3)), (8, .view 35 g35 1 (List.map c_u32 x.2).length), (9, .int .i64 (v3.length : Int)), (11, .view 53 g53 1 (List.map c_u32 s9.2.2).length), (12, .int .u64 (wrap .u64 v7)), (13, .int .u64 (wrap .u64 v8)), (14, .int .i64 s9.1), (16, .int .u64 x.1)] [(4, g4, some (.box [.nil])), (5, g5, some (.box [.nil])), (35, g35, some (.arr 83 1 (List.map c_u32 x.2))), (53, g53, some (.arr 83 1 (List.map c_u32 s9.2.2)))] st))) (x := x24) ?_ ?_
    ·replace h := hx
     refine rs ?_
     refine ro ?_
     refine oc ?_
     refine S.move rfl ?_
     refine oc ?_
     refine S.move rfl ?_
     refine oc ?_
     refine S.move rfl ?_
     refine oc ?_
     refine S.move rfl ?_
     refine oc ?_
     refine S.add rfl rfl rfl ?_
     refine oc ?_
     refine S.add rfl rfl rfl ?_
     obtain ⟨v18, h_v18, h⟩ := bnd_some h
     replace h_v18 := chk_some h_v18
     refine oc ?_
     refine S.sliceSubM (c := c_u32) rfl rfl rfl h_v18 ?_
     refine oc ?_
     refine S.move rfl ?_
     refine oc ?_
     refine S.move rfl ?_
     obtain ⟨v19, h_v19, h⟩ := bnd_some h
     obtain ⟨v20, h_v20, h⟩ := bnd_some h
     replace h_v20 := chk_some h_v20
     refine oc ?_
     refine S.callIOS rfl rfl (S.subFit h_v18) (And.intro rfl rfl) rfl (r84 s9.2.1 s9.1.toNat ((wrap .i64 ((wrap .i64 (s9.1 + (v3.length : Int))) + 1)).toNat - s9.1.toNat) v3 x17 _ h_v19) ?_
     refine OpsR.retell (t := 8) rfl (lenEq c_u32 h_v20) ?_
     refine oz ?_
     rcases ite_some h with ⟨hc, h⟩ | ⟨hc, h⟩
     ·refine Run.setB (t := 129) rfl hc ?_
      refine Run.condT rfl ?_
      refine rs ?_
      refine ro ?_
      refine oc ?_
      refine S.move rfl ?_
      refine oc ?_
      refine S.sub rfl rfl rfl ?_
      refine oc ?_
      refine S.move rfl ?_
      refine oz ?_
      refine Run.cutJ (J := fun st => ∃ g4 g5 g35 g53 : Nat, Is [(4, .ptr 4 g4 0), (5, .ptr 5 g5 0), (6, .int .i64 v2), (7, .sl (List.map c_u32 v3)), (8, .view 35 g35 1 (List.map c_u32 v19.2).length), (9, .int .i64 (v3.length : Int)), (11, .view 53 g53 1 (List.map c_u32 s9.2.2).length), (12, .int .u64 (wrap .u64 v7)), (13, .int .u64 (wrap .u64 v8)), (14, .int .i64 s9.1), (16, .int .u64 (wrap .u64 (x17 - 1)))] [(4, g4, some (.box [.nil])), (5, g5, some (.box [.nil])), (35, g35, some (.arr 83 1 (List.map c_u32 v19.2))), (53, g53, some (.arr 83 1 (List.map c_u32 s9.2.2)))] st) ⟨_, _, _, _, ⟨rfl, rfl, rfl, rfl, rfl, rfl, rfl, rfl, rfl, rfl, rfl, trivial⟩, ⟨rfl, rfl, rfl, rfl, trivial⟩⟩ ?_
      rintro st ⟨g4, g5, g35, g53, hI⟩
      have hI : Is _ _ _ := hI
      revert hI
      refine fun hI => hI.elim ?_
      intro e H
      refine ro ?_
      refine oc ?_
      refine S.move rfl ?_
      refine oc ?_
      refine S.move rfl ?_
      refine oc ?_
      refine S.move rfl ?_
      refine oc ?_
      refine S.move rfl ?_
      refine oc ?_
      refine S.add rfl rfl rfl ?_
      refine oc ?_
      refine S.add rfl rfl rfl ?_
      obtain ⟨v21, h_v21, h⟩ := bnd_some h
      replace h_v21 := chk_some h_v21
      refine oc ?_
      refine S.sliceSubM (c := c_u32) rfl rfl rfl h_v21 ?_
      refine oc ?_
      refine S.move rfl ?_
      obtain ⟨v22, h_v22, h⟩ := bnd_some h
      obtain ⟨v23, h_v23, h⟩ := bnd_some h
      replace h_v23 := chk_some h_v23
      refine oc ?_
      refine S.callIOS rfl rfl (S.subFit h_v21) (And.intro rfl rfl) rfl (r85 v19.2 s9.1.toNat ((wrap .i64 ((wrap .i64 (s9.1 + (v3.length : Int))) + 1)).toNat - s9.1.toNat) v3 _ h_v22) ?_
      refine OpsR.retell (t := 8) rfl (lenEq c_u32 h_v23) ?_
      refine oz ?_
      obtain rfl := some_inj h
      refine JP.mk ?_
      exact Leaf.done (XOne.mk ⟨_, _, _, _, ⟨rfl, rfl, rfl, rfl, rfl, rfl, rfl, rfl, rfl, rfl, rfl, trivial⟩, ⟨rfl, rfl, rfl, rfl, trivial⟩⟩)
     ·refine Run.setB (t := 129) rfl hc ?_
      refine Run.condF rfl ?_
      refine Run.skip ?_
      obtain rfl := some_inj h
      refine JP.mk ?_
      exact Leaf.done (XOne.mk ⟨_, _, _, _, ⟨rfl, rfl, rfl, rfl, rfl, rfl, rfl, rfl, rfl, rfl, rfl, trivial⟩, ⟨rfl, rfl, rfl, rfl, trivial⟩⟩)
    ·intro e0 st0 hX
     rcases hX with ⟨hX⟩
     obtain ⟨g4, g5, g35, g53, hI⟩ := hX
     revert hI
     refine fun hI => hI.elim ?_
     intro e H
     refine ro ?_
     refine oc ?_
     refine S.move rfl ?_
     refine oc ?_
     refine S.move rfl ?_
     refine oc ?_
     refine S.move rfl ?_
     refine oc ?_
     refine S.toInt rfl rfl ?_
     obtain ⟨v25, h_v25, h⟩ := bnd_some h
     refine oc ?_
     refine S.iaddrVM (c := c_u32) rfl rfl (put_in h_v25) ?_
     refine oc ?_
     refine S.putM rfl rfl rfl rfl rfl rfl (by decide) (put_at h_v25) (fun _ => rfl) ?_
     refine OpsR.retell (t := 11) rfl (lenPut c_u32 (put_at h_v25)) ?_
     refine oz ?_
     refine ro ?_
     refine oc ?_
     refine S.move rfl ?_
     refine oc ?_
     refine S.sub rfl rfl rfl ?_
     refine oc ?_
     refine S.move rfl ?_
     refine oz ?_
     obtain rfl := some_inj h
     refine LoopPost.next ?_
     exact Leaf.done ⟨_, _, _, _, ⟨rfl, rfl, rfl, rfl, rfl, rfl, rfl, rfl, rfl, rfl, trivial⟩, ⟨rfl, rfl, rfl, rfl, trivial⟩⟩
  ·refine Run.setB (t := 68) rfl hc ?_
   refine Run.condF rfl ?_
   refine Run.exit ?_
   obtain rfl := some_inj h
   refine LoopPost.out nofun ?_
   exact Leaf.done (XOne.mk ⟨_, _, _, _, ⟨rfl, rfl, rfl, rfl, rfl, trivial⟩, ⟨rfl, rfl, rfl, rfl, trivial⟩⟩)
 ·intro e0 st0 hX
  rcases hX with ⟨hX⟩
  obtain ⟨g4, g5, g35, g53, hI⟩ := hX
  revert hI
  refine fun hI => hI.elim ?_
  intro e H
  refine rs ?_
  refine ro ?_
  refine oc ?_
  refine S.move rfl ?_
  obtain ⟨v27, h_v27, h⟩ := bnd_some h
  refine oc ?_
  refine S.call (And.intro rfl (And.intro rfl (And.intro rfl (And.intro rfl rfl)))) (r58 x26.2 _ h_v27) rfl ?_
  refine oc ?_
  refine S.move rfl ?_
  obtain ⟨v28, h_v28, h⟩ := bnd_some h
  refine oc ?_
  refine S.call (And.intro rfl (And.intro rfl (And.intro rfl (And.intro rfl rfl)))) (r58 x26.1 _ h_v28) rfl ?_
  refine oc ?_
  refine S.move rfl ?_
  obtain ⟨v29, h_v29, h⟩ := bnd_some h
  refine oc ?_
  refine S.call (And.intro rfl rfl) (r86 v28 v2 _ h_v29) rfl ?_
  refine oc ?_
  refine S.storeP rfl rfl rfl rfl rfl rfl (Nat.le_of_ble_eq_true rfl) rfl ?_
  refine oc ?_
  refine S.storeP rfl rfl rfl rfl rfl rfl (Nat.le_of_ble_eq_true rfl) rfl ?_
  refine oz ?_
  refine Run.ret ?_
  obtain rfl := some_inj h
  exact FinS.fin (End.all (And.intro rfl (And.intro rfl rfl)))

theorem r56 (a0 : T_nat_Nat) (a1 : T_nat_Nat) (r : T_nat_Nat × T_nat_Nat × Bool) (h : nat_Nat_DivMod a0 a1 = some r) : Fn Try.prog 56 [.agg (c_nat_Nat a0), .agg (c_nat_Nat a1)] (.tup [.agg (c_nat_Nat r.1), .agg (c_nat_Nat r.2.1), .bool r.2.2]) := by
 unfold nat_Nat_DivMod at h
 refine Fn.ofS hm Try.func56 t56 (Nat.le_of_ble_eq_true rfl) ?_
 refine rs ?_
 refine ro ?_
 refine oc ?_
 refine S.box rfl rfl rfl rfl ?_
 refine oc ?_
 refine S.box rfl rfl rfl rfl ?_
 refine oc ?_
 refine S.alloc rfl ?_
 refine oc ?_
 refine S.alloc rfl ?_
 refine oc ?_
 refine S.move rfl ?_
 refine oz ?_
 refine rs ?_
 refine Run.block ?_
 refine rs ?_
 refine ro ?_
 refine oc ?_
 refine S.faddrP rfl rfl ?_
 refine oc ?_
 refine S.loadP rfl rfl rfl ?_
 refine oc ?_
 refine S.lenLM rfl ?_
 refine oc ?_
 refine S.eql rfl rfl rfl ?_
 refine oc ?_
 refine S.move rfl ?_
 refine oz ?_
 refine Run.cutJ (J := fun st => ∃ g2 g3 g4 g5 : Nat, Is [(2, .ptr 2 g2 0), (3, .ptr 3 g3 0), (4, .ptr 4 g4 0), (5, .ptr 5 g5 0), (11, .bool (decide ((a1.length : Int) = 0)))] [(2, g2, some (.box [.sl (List.map c_u32 a0)])), (3, g3, some (.box [.sl (List.map c_u32 a1)])), (4, g4, some (.box [.nil])), (5, g5, some (.box [.nil]))] st) ⟨_, _, _, _, ⟨rfl, rfl, rfl, rfl, rfl, trivial⟩, ⟨rfl, rfl, rfl, rfl, trivial⟩⟩ ?_
 rintro st ⟨g2, g3, g4, g5, hI⟩
 have hI : Is _ _ _ := hI
 revert hI
 refine fun hI => hI.elim ?_
 intro e H
 rcases ite_some h with ⟨hc, h⟩ | ⟨hc, h⟩
 ·refine Run.setB (t := 11) rfl hc ?_
  refine Run.condT rfl ?_
  refine rs ?_
  refine ro ?_
  refine oc ?_
  refine S.build (And.intro rfl rfl) rfl ?_
  refine oc ?_
  refine S.build (And.intro rfl rfl) rfl ?_
  refine oc ?_
  refine S.storeP rfl rfl rfl rfl rfl rfl (Nat.le_of_ble_eq_true rfl) rfl ?_
  refine oc ?_
  refine S.storeP rfl rfl rfl rfl rfl rfl (Nat.le_of_ble_eq_true rfl) rfl ?_
  refine oc ?_
  refine S.move rfl ?_
  refine oz ?_
  refine Run.ret ?_
  obtain rfl := some_inj h
  exact FinS.fin (End.all (And.intro rfl (And.intro rfl rfl)))
 ·refine Run.setB (t := 11) rfl hc ?_
  refine Run.condF rfl ?_
  refine rs ?_
  refine ro ?_
  refine oc ?_
  refine S.loadP rfl rfl rfl ?_
  refine oc ?_
  refine S.loadP rfl rfl rfl ?_
  obtain ⟨v1, h_v1, h⟩ := bnd_some h
  refine oc ?_
  refine S.call (And.intro rfl rfl) (r52 a0 a1 _ h_v1) rfl ?_
  refine oc ?_
  refine S.lss rfl rfl rfl ?_
  refine oc ?_
  refine S.move rfl ?_
  refine oz ?_
  rcases ite_some h with ⟨hc, h⟩ | ⟨hc, h⟩
  ·refine Run.setB (t := 18) rfl hc ?_
   refine Run.condT rfl ?_
   refine rs ?_
   refine Run.drawn ?_
   refine d0 rfl ?_
   refine S.build (And.intro rfl rfl) rfl ?_
   refine d1 (x := (_, _)) rfl rfl ?_
   refine S.loadP rfl rfl rfl ?_
   refine d1 (x := (_, _)) rfl rfl ?_
   refine S.storeP rfl rfl rfl rfl rfl rfl (Nat.le_of_ble_eq_true rfl) rfl ?_
   refine d1 (x := (_, _)) rfl rfl ?_
   refine S.storeP rfl rfl rfl rfl rfl rfl (Nat.le_of_ble_eq_true rfl) rfl ?_
   refine d0 rfl ?_
   refine S.move rfl ?_
   refine DrawR.nil ?_
   refine Run.ret ?_
   obtain rfl := some_inj h
   exact FinS.fin (End.all (And.intro rfl (And.intro rfl rfl)))
  ·refine Run.setB (t := 18) rfl hc ?_
   refine Run.condF rfl ?_
   refine rs ?_
   refine ro ?_
   refine oc ?_
   refine S.faddrP rfl rfl ?_
   refine oc ?_
   refine S.loadP rfl rfl rfl ?_
   refine oc ?_
   refine S.lenLM rfl ?_
   refine oc ?_
   refine S.eql rfl rfl rfl ?_
   refine oc ?_
   refine S.move rfl ?_
   refine oz ?_
   rcases ite_some h with ⟨hc, h⟩ | ⟨hc, h⟩
   ·refine Run.setB (t := 25) rfl hc ?_
    refine Run.condT rfl ?_
    refine rs ?_
    refine Run.drawn ?_
    refine d1 (x := (_, _)) rfl rfl ?_
    refine S.loadP rfl rfl rfl ?_
    refine d0 rfl ?_
    refine S.faddrP rfl rfl ?_
    refine d1 (x := (_, _)) rfl rfl ?_
    refine S.loadP rfl rfl rfl ?_
    obtain ⟨v2, h_v2, h⟩ := bnd_some h
    refine d0 rfl ?_
    refine S.iaddrLM (c := c_u32) rfl rfl h_v2 (fun _ => rfl) ?_
    refine d0 rfl ?_
    refine S.loadC rfl rfl ?_
    obtain ⟨v3, h_v3, h⟩ := bnd_some h
    refine d1 (x := (_, _)) rfl rfl ?_
    refine S.call (And.intro rfl rfl) (r59 a0 v2 _ h_v3) rfl ?_
    refine d0 rfl ?_
    refine S.move rfl ?_
    refine d0 rfl ?_
    refine S.extract rfl rfl ?_
    refine d0 rfl ?_
    refine S.extract rfl rfl ?_
    refine d1 (x := (_, _)) rfl rfl ?_
    refine S.alloc rfl ?_
    refine d1 (x := (_, _)) rfl rfl ?_
    refine S.storeP rfl rfl rfl rfl rfl rfl (Nat.le_of_ble_eq_true rfl) rfl ?_
    refine d0 rfl ?_
    refine S.move rfl ?_
    refine DrawR.nil ?_
    refine Run.cutJ (J := fun st => ∃ g4 g5 g7 : Nat, Is [(4, .ptr 4 g4 0), (5, .ptr 5 g5 0), (7, .ptr 7 g7 0), (8, .int .u32 v3.2)] [(4, g4, some (.box [.nil])), (5, g5, some (.box [.nil])), (7, g7, some (.box [.sl (List.map c_u32 v3.1)]))] st) ⟨_, _, _, ⟨rfl, rfl, rfl, rfl, trivial⟩, ⟨rfl, rfl, rfl, trivial⟩⟩ ?_
    rintro st ⟨g4, g5, g7, hI⟩
    have hI : Is _ _ _ := hI
    revert hI
    refine fun hI => hI.elim ?_
    intro e H
    refine rs ?_
    refine Run.drawn ?_
    refine d1 (x := (_, _)) rfl rfl ?_
    refine S.loadP rfl rfl rfl ?_
    refine d0 rfl ?_
    refine S.move rfl ?_
    refine d0 rfl ?_
    refine S.toInt rfl rfl ?_
    obtain ⟨v4, h_v4, h⟩ := bnd_some h
    refine d1 (x := (_, _)) rfl rfl ?_
    refine S.call (And.intro rfl rfl) (r33 (wrap .u64 v3.2) _ h_v4) rfl ?_
    refine d1 (x := (_, _)) rfl rfl ?_
    refine S.storeP rfl rfl rfl rfl rfl rfl (Nat.le_of_ble_eq_true rfl) rfl ?_
    refine d1 (x := (_, _)) rfl rfl ?_
    refine S.storeP rfl rfl rfl rfl rfl rfl (Nat.le_of_ble_eq_true rfl) rfl ?_
    refine d0 rfl ?_
    refine S.move rfl ?_
    refine DrawR.nil ?_
    refine Run.ret ?_
    obtain rfl := some_inj h
    exact FinS.fin (End.all (And.intro rfl (And.intro rfl rfl)))
   ·refine Run.setB (t := 25) rfl hc ?_
    refine Run.condF rfl ?_
    refine Run.skip ?_
    refine Run.cutJ (J := fun st => ∃ g2 g3 g4 g5 : Nat, Is [(2, .ptr 2 g2 0), (3, .ptr 3 g3 0), (4, .ptr 4 g4 0), (5, .ptr 5 g5 0)] [(2, g2, some (.box [.sl (List.map c_u32 a0)])), (3, g3, some (.box [.sl (List.map c_u32 a1)])), (4, g4, some (.box [.nil])), (5, g5, some (.box [.nil]))] st) ⟨_, _, _, _, ⟨rfl, rfl, rfl, rfl, trivial⟩, ⟨rfl, rfl, rfl, rfl, trivial⟩⟩ ?_
    rintro st ⟨g2, g3, g4, g5, hI⟩
    have hI : Is _ _ _ := hI
    revert hI
    refine fun hI => hI.elim ?_
    intro e H
    refine rs ?_
    refine ro ?_
    refine oc ?_
    refine S.loadP rfl rfl rfl ?_
    refine oc ?_
    refine S.loadP rfl rfl rfl ?_
    obtain ⟨v5, h_v5, h⟩ := bnd_some h
    refine oc ?_
    refine S.call (And.intro rfl rfl) (r74 a0 a1 _ h_v5) rfl ?_
    refine oc ?_
    refine S.move rfl ?_
    refine oc ?_
    refine S.extract rfl rfl ?_
    refine oc ?_
    refine S.extract rfl rfl ?_
    refine oc ?_
    refine S.alloc rfl ?_
    refine oc ?_
    refine S.alloc rfl ?_
    refine oc ?_
    refine S.storeP rfl rfl rfl rfl rfl rfl (Nat.le_of_ble_eq_true rfl) rfl ?_
    refine oc ?_
    refine S.storeP rfl rfl rfl rfl rfl rfl (Nat.le_of_ble_eq_true rfl) rfl ?_
    refine oz ?_
    refine rs ?_
    refine Run.drawn ?_
    refine d1 (x := (_, _)) rfl rfl ?_
    refine S.loadP rfl rfl rfl ?_
    refine d1 (x := (_, _)) rfl rfl ?_
    refine S.loadP rfl rfl rfl ?_
    refine d1 (x := (_, _)) rfl rfl ?_
    refine S.storeP rfl rfl rfl rfl rfl rfl (Nat.le_of_ble_eq_true rfl) rfl ?_
    refine d1 (x := (_, _)) rfl rfl ?_
    refine S.storeP rfl rfl rfl rfl rfl rfl (Nat.le_of_ble_eq_true rfl) rfl ?_
    refine d0 rfl ?_
    refine S.move rfl ?_
    refine DrawR.nil ?_
    refine Run.cutJ (J := fun st => ∃ g4 g5 : Nat, Is [(4, .ptr 4 g4 0), (5, .ptr 5 g5 0), (6, .bool true)] [(4, g4, some (.box [.sl (List.map c_u32 v5.1)])), (5, g5, some (.box [.sl (List.map c_u32 v5.2)]))] st) ⟨_, _, ⟨rfl, rfl, rfl, trivial⟩, ⟨rfl, rfl, trivial⟩⟩ ?_
    rintro st ⟨g4, g5, hI⟩
    have hI : Is _ _ _ := hI
    revert hI
    refine fun hI => hI.elim ?_
    intro e H
    refine Run.ret ?_
    obtain rfl := some_inj h
    exact FinS.fin (End.all (And.intro rfl (And.intro rfl rfl)))

theorem r73 (a0 : T_nat_Nat) (r : Int × Bool) (h : nat_Nat_Uint a0 = some r) : Fn Try.prog 73 [.agg (c_nat_Nat a0)] (.tup [.int .u64 r.1, .bool r.2]) := by
 unfold nat_Nat_Uint at h
 refine Fn.ofS hm Try.func73 t73 (Nat.le_of_ble_eq_true rfl) ?_
 refine rs ?_
 refine ro ?_
 refine oc ?_
 refine S.box rfl rfl rfl rfl ?_
 refine oc ?_
 refine S.move rfl ?_
 refine oc ?_
 refine S.move rfl ?_
 refine oz ?_
 refine rs ?_
 refine rs ?_
 refine ro ?_
 refine oc ?_
 refine S.faddrP rfl rfl ?_
 refine oc ?_
 refine S.loadP rfl rfl rfl ?_
 refine oc ?_
 refine S.lenLM rfl ?_
 refine oz ?_
 refine Run.block ?_
 refine rs ?_
 refine ro ?_
 refine oc ?_
 refine S.eql rfl rfl rfl ?_
 refine oc ?_
 refine S.move rfl ?_
 refine oz ?_
 rcases ite_some h with ⟨hc, h⟩ | ⟨hc, h⟩
 ·refine Run.setB (t := 7) rfl hc ?_
  refine Run.condT rfl ?_
  refine rs ?_
  refine ro ?_
  refine oc ?_
  refine S.move rfl ?_
  refine oc ?_
  refine S.move rfl ?_
  refine oz ?_
  refine Run.ret ?_
  obtain rfl := some_inj h
  exact FinS.fin (End.all rfl)
 ·refine Run.setB (t := 7) rfl hc ?_
  refine Run.condF rfl ?_
  refine rs ?_
  refine ro ?_
  refine oc ?_
  refine S.eql rfl rfl rfl ?_
  refine oc ?_
  refine S.move rfl ?_
  refine oz ?_
  rcases ite_some h with ⟨hc, h⟩ | ⟨hc, h⟩
  ·refine Run.setB (t := 9) rfl hc ?_
   refine Run.condT rfl ?_
   refine rs ?_
   refine ro ?_
   refine oc ?_
   refine S.faddrP rfl rfl ?_
   refine oc ?_
   refine S.loadP rfl rfl rfl ?_
   obtain ⟨v1, h_v1, h⟩ := bnd_some h
   refine oc ?_
   refine S.iaddrLM (c := c_u32) rfl rfl h_v1 (fun _ => rfl) ?_
   refine oc ?_
   refine S.loadC rfl rfl ?_
   refine oc ?_
   refine S.toInt rfl rfl ?_
   refine oc ?_
   refine S.move rfl ?_
   refine oc ?_
   refine S.move rfl ?_
   refine oz ?_
   refine Run.cutJ (J := fun st => Is [(2, .int .u64 (wrap .u64 v1)), (3, .bool true)] [] st) ⟨⟨rfl, rfl, trivial⟩, trivial⟩ ?_
   rintro st hI
   have hI : Is _ _ _ := hI
   revert hI
   refine fun hI => hI.elim ?_
   intro e H
   refine Run.ret ?_
   obtain rfl := some_inj h
   exact FinS.fin (End.all rfl)
  ·refine Run.setB (t := 9) rfl hc ?_
   refine Run.condF rfl ?_
   refine rs ?_
   refine ro ?_
   refine oc ?_
   refine S.eql rfl rfl rfl ?_
   refine oc ?_
   refine S.move rfl ?_
   refine oz ?_
   refine Run.cutJ (J := fun st => ∃ g1 : Nat, Is [(1, .ptr 1 g1 0), (16, .bool (decide ((a0.length : Int) = 2)))] [(1, g1, some (.box [.sl (List.map c_u32 a0)]))] st) ⟨_, ⟨rfl, rfl, trivial⟩, ⟨rfl, trivial⟩⟩ ?_
   rintro st ⟨g1, hI⟩
   have hI : Is _ _ _ := hI
   revert hI
   refine fun hI => hI.elim ?_
   intro e H
   rcases ite_some h with ⟨hc, h⟩ | ⟨hc, h⟩
   ·refine Run.setB (t := 16) rfl hc ?_
    refine Run.condT rfl ?_
    refine rs ?_
    refine Run.drawn ?_
    refine d0 rfl ?_
    refine S.faddrP rfl rfl ?_
    refine d1 (x := (_, _)) rfl rfl ?_
    refine S.loadP rfl rfl rfl ?_
    obtain ⟨v2, h_v2, h⟩ := bnd_some h
    refine d0 rfl ?_
    refine S.iaddrLM (c := c_u32) rfl rfl h_v2 (fun _ => rfl) ?_
    refine d0 rfl ?_
    refine S.loadC rfl rfl ?_
    refine d0 rfl ?_
    refine S.toInt rfl rfl ?_
    refine d0 rfl ?_
    refine S.faddrP rfl rfl ?_
    refine d1 (x := (_, _)) rfl rfl ?_
    refine S.loadP rfl rfl rfl ?_
    obtain ⟨v3, h_v3, h⟩ := bnd_some h
    refine d0 rfl ?_
    refine S.iaddrLM (c := c_u32) rfl rfl h_v3 (fun _ => rfl) ?_
    refine d0 rfl ?_
    refine S.loadC rfl rfl ?_
    refine d0 rfl ?_
    refine S.toInt rfl rfl ?_
    refine d0 rfl ?_
    refine S.shl rfl rfl (by decide) rfl ?_
    refine d0 rfl ?_
    refine S.or rfl rfl rfl ?_
    refine d0 rfl ?_
    refine S.move rfl ?_
    refine d0 rfl ?_
    refine S.move rfl ?_
    refine DrawR.nil ?_
    refine Run.cutJ (J := fun st => Is [(2, .int .u64 (bor .u64 (wrap .u64 v2) (shl .u64 (wrap .u64 v3) 32))), (3, .bool true)] [] st) ⟨⟨rfl, rfl, trivial⟩, trivial⟩ ?_
    rintro st hI
    have hI : Is _ _ _ := hI
    revert hI
    refine fun hI => hI.elim ?_
    intro e H
    refine Run.ret ?_
    obtain rfl := some_inj h
    exact FinS.fin (End.all rfl)
   ·refine Run.setB (t := 16) rfl hc ?_
    refine Run.condF rfl ?_
    refine Run.skip ?_
    refine rs ?_
    refine ro ?_
    refine oc ?_
    refine S.move rfl ?_
    refine oc ?_
    refine S.move rfl ?_
    refine oz ?_
    refine Run.ret ?_
    obtain rfl := some_inj h
    exact FinS.fin (End.all rfl)

theorem r54 (a0 : T_nat_Nat) (a1 : T_nat_Nat) (r : T_nat_Nat) (h : nat_Nat_Gcd a0 a1 = some r) : Fn Try.prog 54 [.agg (c_nat_Nat a0), .agg (c_nat_Nat a1)] (.agg (c_nat_Nat r)) := by
 unfold nat_Nat_Gcd at h
 refine Fn.ofS hm Try.func54 t54 (Nat.le_of_ble_eq_true rfl) ?_
 refine rs ?_
 refine ro ?_
 refine oc ?_
 refine S.box rfl rfl rfl rfl ?_
 refine oc ?_
 refine S.box rfl rfl rfl rfl ?_
 refine oc ?_
 refine S.alloc rfl ?_
 refine oz ?_
 refine rs ?_
 refine Run.block ?_
 obtain ⟨x11, hx, h⟩ := bnd_some h
 refine Run.iter (I := (fun (s : List Int × List Int) (st : St) => ∃ g2 g3 g4 : Nat, Is [(2, .ptr 2 g2 0), (3, .ptr 3 g3 0), (4, .ptr 4 g4 0)] [(2, g2, some (.box [.sl (List.map c_u32 s.1)])), (3, g3, some (.box [.sl (List.map c_u32 s.2)])), (4, g4, some (.box [.nil]))] st)) (X := (XSum (XOne (.exit 0) (fun (x : List Int) (st : St) => ∃ g2 g4 : Nat, Is [(2, .ptr 2 g2 0), (4, .ptr 4 g4 0)] [(2, g2, some (.box [.sl (List.map c_u32 x)])), (4, g4, some (.box [.nil]))] st)) (XRet [.cell 4 (some 1)] (fun (x : T_nat_Nat) => .agg (c_nat_Nat x))))) hx ?_ ?_ ?_
 ·exact ⟨_, _, _, ⟨rfl, rfl, rfl, trivial⟩, ⟨rfl, rfl, rfl, trivial⟩⟩
 ·rintro s1 st ⟨g2, g3, g4, hI⟩ o h
  have hI : Is _ _ _ := hI
  revert hI
  refine fun hI => hI.elim ?_
  intro e H
  refine rs ?_
  refine rs ?_
  refine ro ?_
  refine oc ?_
  refine S.loadP rfl rfl rfl ?_
  obtain ⟨v2, h_v2, h⟩ := bnd_some h
  refine oc ?_
  refine S.call (And.intro rfl rfl) (r53 s1.2 _ h_v2) rfl ?_
  refine oc ?_
  refine S.not rfl rfl ?_
  refine oz ?_
  rcases ite_some h with ⟨hc, h⟩ | ⟨hc, h⟩
  ·refine Run.setB (t := 14) rfl hc ?_
   refine Run.condT rfl ?_
   refine Run.skip ?_
   refine Run.block ?_
   refine rs ?_
   refine ro ?_
   refine oc ?_
   refine S.loadP rfl rfl rfl ?_
   obtain ⟨v3, h_v3, h⟩ := bnd_some h
   refine oc ?_
   refine S.call (And.intro rfl rfl) (r73 s1.1 _ h_v3) rfl ?_
   refine oc ?_
   refine S.move rfl ?_
   refine oc ?_
   refine S.extract rfl rfl ?_
   refine oc ?_
   refine S.extract rfl rfl ?_
   refine oc ?_
   refine S.move rfl ?_
   refine oc ?_
   refine S.move rfl ?_
   refine oz ?_
   refine rs ?_
   refine ro ?_
   refine oc ?_
   refine S.loadP rfl rfl rfl ?_
   obtain ⟨v4, h_v4, h⟩ := bnd_some h
   refine oc ?_
   refine S.call (And.intro rfl rfl) (r73 s1.2 _ h_v4) rfl ?_
   refine oc ?_
   refine S.move rfl ?_
   refine oc ?_
   refine S.extract rfl rfl ?_
   refine oc ?_
   refine S.extract rfl rfl ?_
   refine oc ?_
   refine S.move rfl ?_
   refine oc ?_
   refine S.move rfl ?_
   refine oz ?_
   refine Run.cutJ (J := fun st => ∃ g2 g3 g4 : Nat, Is [(2, .ptr 2 g2 0), (3, .ptr 3 g3 0), (4, .ptr 4 g4 0), (5, .int .u64 v3.1), (6, .bool v3.2), (7, .int .u64 v4.1), (8, .bool v4.2)] [(2, g2, some (.box [.sl (List.map c_u32 s1.1)])), (3, g3, some (.box [.sl (List.map c_u32 s1.2)])), (4, g4, some (.box [.nil]))] st) ⟨_, _, _, ⟨rfl, rfl, rfl, rfl, rfl, rfl, rfl, trivial⟩, ⟨rfl, rfl, rfl, trivial⟩⟩ ?_
   rintro st ⟨g2, g3, g4, hI⟩
   have hI : Is _ _ _ := hI
   revert hI
   refine fun hI => hI.elim ?_
   intro e H
   refine rs ?_
   refine rs ?_
   refine ro ?_
   refine oc ?_
   refine S.move rfl ?_
   refine oc ?_
   refine S.move rfl ?_
   obtain ⟨x5, hx, h⟩ := lt_some h
   refine OpsR.splitAt 2 (J := fun st => ∃ g2 g3 g4 : Nat, Is [(2, .ptr 2 g2 0), (3, .ptr 3 g3 0), (4, .ptr 4 g4 0), (5, .int .u64 v3.1), (7, .int .u64 v4.1), (28, .bool x5)] [(2, g2, some (.box [.sl (List.map c_u32 s1.1)])), (3, g3, some (.box [.sl (List.map c_u32 s1.2)])), (4, g4, some (.box [.nil]))] st) ?_ ?_
   ·replace h := hx
    rcases itep h with ⟨hc, h⟩ | ⟨hc, h⟩
    ·refine OpsR.setB (t := 26) rfl hc ?_
     refine oc ?_
     refine S.on rfl ?_
     refine S.move rfl ?_
     refine oc ?_
     refine S.pick rfl rfl rfl rfl ?_
     obtain rfl := some_inj h
     refine oz ?_
     exact ⟨_, _, _, ⟨rfl, rfl, rfl, rfl, rfl, rfl, trivial⟩, ⟨rfl, rfl, rfl, trivial⟩⟩
    ·refine OpsR.setB (t := 26) rfl hc ?_
     refine oc ?_
     refine S.off rfl (by decide) ?_
     refine oc ?_
     refine S.pick rfl rfl rfl rfl ?_
     obtain rfl := some_inj h
     refine oz ?_
     exact ⟨_, _, _, ⟨rfl, rfl, rfl, rfl, rfl, rfl, trivial⟩, ⟨rfl, rfl, rfl, trivial⟩⟩
   ·rintro st ⟨g2, g3, g4, hI⟩
    have hI : Is _ _ _ := hI
    revert hI
    refine fun hI => hI.elim ?_
    intro e H
    refine oz ?_
    rcases ite_some h with ⟨hc, h⟩ | ⟨hc, h⟩
    ·refine Run.setB (t := 28) rfl hc ?_
     refine Run.condT rfl ?_
     refine rs ?_
     refine Run.block ?_
     obtain ⟨x8, hx, h⟩ := bnd_some h
     refine Run.iter (I := (fun (s : Int × Int) (st : St) => ∃ g4 : Nat, Is [(4, .ptr 4 g4 0), (5, .int .u64 s.1), (7, .int .u64 s.2)] [(4, g4, some (.box [.nil]))] st)) (X := (XOne (.exit 2) (fun (x : Int) (st : St) => ∃ g4 : Nat, Is [(4, .ptr 4 g4 0), (5, .int .u64 x)] [(4, g4, some (.box [.nil]))] st))) hx ?_ ?_ ?_
     ·exact ⟨_, ⟨rfl, rfl, rfl, trivial⟩, ⟨rfl, trivial⟩⟩
     ·rintro s6 st ⟨g4, hI⟩ o h
      have hI : Is _ _ _ := hI
      revert hI
      refine fun hI => hI.elim ?_
      intro e H
      refine rs ?_
      refine rs ?_
      refine ro ?_
      refine oc ?_
      refine S.move rfl ?_
      refine oc ?_
      refine S.neq rfl rfl rfl ?_
      refine oz ?_
      rcases ite_some h with ⟨hc, h⟩ | ⟨hc, h⟩
      ·refine Run.setB (t := 30) rfl hc ?_
       refine Run.condT rfl ?_
       refine Run.skip ?_
       refine Run.block ?_
       refine Run.drawn ?_
       refine d0 rfl ?_
       refine S.move rfl ?_
       refine d0 rfl ?_
       refine S.move rfl ?_
       refine d0 rfl ?_
       refine S.move rfl ?_
       obtain ⟨v7, h_v7, h⟩ := bnd_some h
       refine d0 rfl ?_
       refine S.rem rfl rfl (chk_some h_v7) rfl ?_
       refine d0 rfl ?_
       refine S.move rfl ?_
       refine d0 rfl ?_
       refine S.move rfl ?_
       refine DrawR.nil ?_
       obtain rfl := some_inj h
       refine LoopPost.next ?_
       exact Leaf.done ⟨_, ⟨rfl, rfl, rfl, trivial⟩, ⟨rfl, trivial⟩⟩
      ·refine Run.setB (t := 30) rfl hc ?_
       refine Run.condF rfl ?_
       refine Run.exit ?_
       obtain rfl := some_inj h
       refine LoopPost.out nofun ?_
       exact Leaf.done (XOne.mk ⟨_, ⟨rfl, rfl, trivial⟩, ⟨rfl, trivial⟩⟩)
     ·intro e0 st0 hX
      rcases hX with ⟨hX⟩
      obtain ⟨g4, hI⟩ := hX
      revert hI
      refine fun hI => hI.elim ?_
      intro e H
      refine rs ?_
      refine ro ?_
      refine oc ?_
      refine S.move rfl ?_
      obtain ⟨v9, h_v9, h⟩ := bnd_some h
      refine oc ?_
      refine S.call (And.intro rfl rfl) (r33 x8 _ h_v9) rfl ?_
      refine oc ?_
      refine S.storeP rfl rfl rfl rfl rfl rfl (Nat.le_of_ble_eq_true rfl) rfl ?_
      refine oz ?_
      refine Run.ret ?_
      obtain rfl := some_inj h
      exact LoopPost.out nofun (Leaf.done (XSum.r (XRet.mk (FinS.fin (End.cell rfl rfl rfl rfl rfl)))))
    ·refine Run.setB (t := 28) rfl hc ?_
     refine Run.condF rfl ?_
     refine Run.skip ?_
     refine rs ?_
     refine ro ?_
     refine oc ?_
     refine S.loadP rfl rfl rfl ?_
     refine oc ?_
     refine S.loadP rfl rfl rfl ?_
     obtain ⟨v10, h_v10, h⟩ := bnd_some h
     refine oc ?_
     refine S.call (And.intro rfl rfl) (r56 s1.1 s1.2 _ h_v10) rfl ?_
     refine oc ?_
     refine S.move rfl ?_
     refine oc ?_
     refine S.extract rfl rfl ?_
     refine oc ?_
     refine S.extract rfl rfl ?_
     refine oc ?_
     refine S.extract rfl rfl ?_
     refine oc ?_
     refine S.alloc rfl ?_
     refine oc ?_
     refine S.alloc rfl ?_
     refine oc ?_
     refine S.storeP rfl rfl rfl rfl rfl rfl (Nat.le_of_ble_eq_true rfl) rfl ?_
     refine oc ?_
     refine S.storeP rfl rfl rfl rfl rfl rfl (Nat.le_of_ble_eq_true rfl) rfl ?_
     refine oc ?_
     refine S.move rfl ?_
     refine oz ?_
     refine Run.cutJ (J := fun st => ∃ g2 g3 g4 g10 : Nat, Is [(2, .ptr 2 g2 0), (3, .ptr 3 g3 0), (4, .ptr 4 g4 0), (10, .ptr 10 g10 0)] [(2, g2, some (.box [.sl (List.map c_u32 s1.1)])), (3, g3, some (.box [.sl (List.map c_u32 s1.2)])), (4, g4, some (.box [.nil])), (10, g10, some (.box [.sl (List.map c_u32 v10.2.1)]))] st) ⟨_, _, _, _, ⟨rfl, rfl, rfl, rfl, trivial⟩, ⟨rfl, rfl, rfl, rfl, trivial⟩⟩ ?_
     rintro st ⟨g2, g3, g4, g10, hI⟩
     have hI : Is _ _ _ := hI
     revert hI
     refine fun hI => hI.elim ?_
     intro e H
     refine Run.drawn ?_
     refine d1 (x := (_, _)) rfl rfl ?_
     refine S.loadP rfl rfl rfl ?_
     refine d1 (x := (_, _)) rfl rfl ?_
     refine S.loadP rfl rfl rfl ?_
     refine d1 (x := (_, _)) rfl rfl ?_
     refine S.storeP rfl rfl rfl rfl rfl rfl (Nat.le_of_ble_eq_true rfl) rfl ?_
     refine d1 (x := (_, _)) rfl rfl ?_
     refine S.storeP rfl rfl rfl rfl rfl rfl (Nat.le_of_ble_eq_true rfl) rfl ?_
     refine DrawR.nil ?_
     obtain rfl := some_inj h
     refine LoopPost.next ?_
     exact Leaf.done ⟨_, _, _, ⟨rfl, rfl, rfl, trivial⟩, ⟨rfl, rfl, rfl, trivial⟩⟩
  ·refine Run.setB (t := 14) rfl hc ?_
   refine Run.condF rfl ?_
   refine Run.exit ?_
   obtain rfl := some_inj h
   refine LoopPost.out nofun ?_
   exact Leaf.done (XSum.l (XOne.mk ⟨_, _, ⟨rfl, rfl, trivial⟩, ⟨rfl, rfl, trivial⟩⟩))
 ·intro e0 st0 hX
  revert h hX
  rcases x11 with x12 | x13
  ·intro h hX
   replace h := sm_l h
   replace hX := XSum.invl hX
   rcases hX with ⟨hX⟩
   obtain ⟨g2, g4, hI⟩ := hX
   revert hI
   refine fun hI => hI.elim ?_
   intro e H
   refine rs ?_
   refine ro ?_
   refine oc ?_
   refine S.loadP rfl rfl rfl ?_
   refine oc ?_
   refine S.storeP rfl rfl rfl rfl rfl rfl (Nat.le_of_ble_eq_true rfl) rfl ?_
   refine oz ?_
   refine Run.ret ?_
   obtain rfl := some_inj h
   exact FinS.fin (End.cell rfl rfl rfl rfl rfl)
  ·intro h hX
   replace h := sm_r h
   replace hX := XSum.invr hX
   rcases hX with ⟨hf⟩
   obtain rfl := some_inj h
   exact hf

theorem r55 (a0 : T_whole_Int) (r : T_nat_Nat) (h : whole_Int_Size a0 = some r) : Fn Try.prog 55 [.agg (c_whole_Int a0)] (.agg (c_nat_Nat r)) := by
 unfold whole_Int_Size at h
 refine Fn.ofS hm Try.func55 t55 (Nat.le_of_ble_eq_true rfl) ?_
 refine rs ?_
 refine ro ?_
 refine oc ?_
 refine S.box rfl rfl rfl rfl ?_
 refine oc ?_
 refine S.alloc rfl ?_
 refine oz ?_
 refine rs ?_
 refine ro ?_
 refine oc ?_
 refine S.faddrP rfl rfl ?_
 refine oc ?_
 refine S.loadP rfl rfl rfl ?_
 refine oc ?_
 refine S.storeP rfl rfl rfl rfl rfl rfl (Nat.le_of_ble_eq_true rfl) rfl ?_
 refine oz ?_
 refine Run.ret ?_
 obtain rfl := some_inj h
 exact FinS.fin (End.cell rfl rfl rfl rfl rfl)

theorem r30 (a0 : T_whole_Int) (a1 : T_whole_Int) (r : T_ratio_Rat × Bool) (h : ratio_New a0 a1 = some r) : Fn Try.prog 30 [.agg (c_whole_Int a0), .agg (c_whole_Int a1)] (.tup [.agg (c_ratio_Rat r.1), .bool r.2]) := by
 unfold ratio_New at h
 refine Fn.ofS hm Try.func30 t30 (Nat.le_of_ble_eq_true rfl) ?_
 refine rs ?_
 refine ro ?_
 refine oc ?_
 refine S.box rfl rfl rfl rfl ?_
 refine oc ?_
 refine S.box rfl rfl rfl rfl ?_
 refine oc ?_
 refine S.alloc rfl ?_
 refine oc ?_
 refine S.move rfl ?_
 refine oz ?_
 refine rs ?_
 refine rs ?_
 refine ro ?_
 refine oc ?_
 refine S.faddrP rfl rfl ?_
 refine oc ?_
 refine S.loadP rfl rfl rfl ?_
 obtain ⟨v1, h_v1, h⟩ := bnd_some h
 refine oc ?_
 refine S.call (And.intro rfl rfl) (r53 a1.1 _ h_v1) rfl ?_
 refine oz ?_
 rcases ite_some h with ⟨hc, h⟩ | ⟨hc, h⟩
 ·refine Run.setB (t := 15) rfl hc ?_
  refine Run.condT rfl ?_
  refine rs ?_
  refine ro ?_
  refine oc ?_
  refine S.build (And.intro rfl rfl) rfl ?_
  refine oc ?_
  refine S.storeP rfl rfl rfl rfl rfl rfl (Nat.le_of_ble_eq_true rfl) rfl ?_
  refine oc ?_
  refine S.move rfl ?_
  refine oz ?_
  refine Run.cutJ (J := fun st => ∃ g4 : Nat, Is [(4, .ptr 4 g4 0), (5, .bool false)] [(4, g4, some (.box [.nil, .bool false, .nil]))] st) ⟨_, ⟨rfl, rfl, trivial⟩, ⟨rfl, trivial⟩⟩ ?_
  rintro st ⟨g4, hI⟩
  have hI : Is _ _ _ := hI
  revert hI
  refine fun hI => hI.elim ?_
  intro e H
  refine Run.ret ?_
  obtain rfl := some_inj h
  exact FinS.fin (End.all (And.intro rfl rfl))
 ·refine Run.setB (t := 15) rfl hc ?_
  refine Run.condF rfl ?_
  refine Run.skip ?_
  refine rs ?_
  refine Run.drawn ?_
  refine d0 rfl ?_
  refine S.faddrP rfl rfl ?_
  refine d1 (x := (_, _)) rfl rfl ?_
  refine S.loadP rfl rfl rfl ?_
  refine d1 (x := (_, _)) rfl rfl ?_
  refine S.loadP rfl rfl rfl ?_
  obtain ⟨v2, h_v2, h⟩ := bnd_some h
  refine d1 (x := (_, _)) rfl rfl ?_
  refine S.call (And.intro rfl rfl) (r55 a1 _ h_v2) rfl ?_
  obtain ⟨v3, h_v3, h⟩ := bnd_some h
  refine d1 (x := (_, _)) rfl rfl ?_
  refine S.call (And.intro rfl rfl) (r54 a0.1 v2 _ h_v3) rfl ?_
  refine d1 (x := (_, _)) rfl rfl ?_
  refine S.alloc rfl ?_
  refine d1 (x := (_, _)) rfl rfl ?_
  refine S.storeP rfl rfl rfl rfl rfl rfl (Nat.le_of_ble_eq_true rfl) rfl ?_
  refine DrawR.nil ?_
  refine Run.cutJ (J := fun st => ∃ g2 g3 g4 g6 : Nat, Is [(2, .ptr 2 g2 0), (3, .ptr 3 g3 0), (4, .ptr 4 g4 0), (6, .ptr 6 g6 0)] [(2, g2, some (.box [.sl (List.map c_u32 a0.1), .bool a0.2])), (3, g3, some (.box [.sl (List.map c_u32 a1.1), .bool a1.2])), (4, g4, some (.box [.nil, .bool false, .nil])), (6, g6, some (.box [.sl (List.map c_u32 v3)]))] st) ⟨_, _, _, _, ⟨rfl, rfl, rfl, rfl, trivial⟩, ⟨rfl, rfl, rfl, rfl, trivial⟩⟩ ?_
  rintro st ⟨g2, g3, g4, g6, hI⟩
  have hI : Is _ _ _ := hI
  revert hI
  refine fun hI => hI.elim ?_
  intro e H
  refine rs ?_
  refine ro ?_
  refine oc ?_
  refine S.faddrP rfl rfl ?_
  refine oc ?_
  refine S.loadP rfl rfl rfl ?_
  refine oc ?_
  refine S.loadP rfl rfl rfl ?_
  obtain ⟨v4, h_v4, h⟩ := bnd_some h
  refine oc ?_
  refine S.call (And.intro rfl rfl) (r56 a0.1 v3 _ h_v4) rfl ?_
  refine oc ?_
  refine S.move rfl ?_
  refine oc ?_
  refine S.extract rfl rfl ?_
  refine oc ?_
  refine S.extract rfl rfl ?_
  refine oc ?_
  refine S.extract rfl rfl ?_
  refine oc ?_
  refine S.alloc rfl ?_
  refine oc ?_
  refine S.alloc rfl ?_
  refine oc ?_
  refine S.storeP rfl rfl rfl rfl rfl rfl (Nat.le_of_ble_eq_true rfl) rfl ?_
  refine oc ?_
  refine S.storeP rfl rfl rfl rfl rfl rfl (Nat.le_of_ble_eq_true rfl) rfl ?_
  refine oc ?_
  refine S.move rfl ?_
  refine oz ?_
  refine Run.cutJ (J := fun st => ∃ g2 g3 g4 g6 g7 : Nat, Is [(2, .ptr 2 g2 0), (3, .ptr 3 g3 0), (4, .ptr 4 g4 0), (6, .ptr 6 g6 0), (7, .ptr 7 g7 0)] [(2, g2, some (.box [.sl (List.map c_u32 a0.1), .bool a0.2])), (3, g3, some (.box [.sl (List.map c_u32 a1.1), .bool a1.2])), (4, g4, some (.box [.nil, .bool false, .nil])), (6, g6, some (.box [.sl (List.map c_u32 v3)])), (7, g7, some (.box [.sl (List.map c_u32 v4.1)]))] st) ⟨_, _, _, _, _, ⟨rfl, rfl, rfl, rfl, rfl, trivial⟩, ⟨rfl, rfl, rfl, rfl, rfl, trivial⟩⟩ ?_
  rintro st ⟨g2, g3, g4, g6, g7, hI⟩
  have hI : Is _ _ _ := hI
  revert hI
  refine fun hI => hI.elim ?_
  intro e H
  refine rs ?_
  refine ro ?_
  refine oc ?_
  refine S.faddrP rfl rfl ?_
  refine oc ?_
  refine S.loadP rfl rfl rfl ?_
  refine oc ?_
  refine S.loadP rfl rfl rfl ?_
  obtain ⟨v5, h_v5, h⟩ := bnd_some h
  refine oc ?_
  refine S.call (And.intro rfl rfl) (r56 a1.1 v3 _ h_v5) rfl ?_
  refine oc ?_
  refine S.move rfl ?_
  refine oc ?_
  refine S.extract rfl rfl ?_
  refine oc ?_
  refine S.extract rfl rfl ?_
  refine oc ?_
  refine S.extract rfl rfl ?_
  refine oc ?_
  refine S.alloc rfl ?_
  refine oc ?_
  refine S.alloc rfl ?_
  refine oc ?_
  refine S.storeP rfl rfl rfl rfl rfl rfl (Nat.le_of_ble_eq_true rfl) rfl ?_
  refine oc ?_
  refine S.storeP rfl rfl rfl rfl rfl rfl (Nat.le_of_ble_eq_true rfl) rfl ?_
  refine oc ?_
  refine S.move rfl ?_
  refine oz ?_
  refine Run.cutJ (J := fun st => ∃ g2 g3 g4 g7 g10 : Nat, Is [(2, .ptr 2 g2 0), (3, .ptr 3 g3 0), (4, .ptr 4 g4 0), (7, .ptr 7 g7 0), (10, .ptr 10 g10 0)] [(2, g2, some (.box [.sl (List.map c_u32 a0.1), .bool a0.2])), (3, g3, some (.box [.sl (List.map c_u32 a1.1), .bool a1.2])), (4, g4, some (.box [.nil, .bool false, .nil])), (7, g7, some (.box [.sl (List.map c_u32 v4.1)])), (10, g10, some (.box [.sl (List.map c_u32 v5.1)]))] st) ⟨_, _, _, _, _, ⟨rfl, rfl, rfl, rfl, rfl, trivial⟩, ⟨rfl, rfl, rfl, rfl, rfl, trivial⟩⟩ ?_
  rintro st ⟨g2, g3, g4, g7, g10, hI⟩
  have hI : Is _ _ _ := hI
  revert hI
  refine fun hI => hI.elim ?_
  intro e H
  refine rs ?_
  refine Run.drawn ?_
  refine d1 (x := (_, _)) rfl rfl ?_
  refine S.loadP rfl rfl rfl ?_
  obtain ⟨v6, h_v6, h⟩ := bnd_some h
  refine d1 (x := (_, _)) rfl rfl ?_
  refine S.call (And.intro rfl rfl) (r35 a0 _ h_v6) rfl ?_
  refine d1 (x := (_, _)) rfl rfl ?_
  refine S.loadP rfl rfl rfl ?_
  obtain ⟨v7, h_v7, h⟩ := bnd_some h
  refine d1 (x := (_, _)) rfl rfl ?_
  refine S.call (And.intro rfl rfl) (r35 a1 _ h_v7) rfl ?_
  refine d0 rfl ?_
  refine S.binB rfl rfl rfl ?_
  refine d1 (x := (_, _)) rfl rfl ?_
  refine S.loadP rfl rfl rfl ?_
  obtain ⟨v8, h_v8, h⟩ := bnd_some h
  refine d1 (x := (_, _)) rfl rfl ?_
  refine S.call (And.intro rfl rfl) (r43 (!(v6 == v7)) v4.1 _ h_v8) rfl ?_
  refine d1 (x := (_, _)) rfl rfl ?_
  refine S.loadP rfl rfl rfl ?_
  refine d0 rfl ?_
  refine S.build (And.intro rfl rfl) (And.intro rfl (And.intro rfl (And.intro (Nat.le_of_ble_eq_true rfl) (And.intro rfl (And.intro rfl (And.intro (Nat.le_of_ble_eq_true rfl) rfl)))))) ?_
  refine d1 (x := (_, _)) rfl rfl ?_
  refine S.storeP rfl rfl rfl rfl rfl rfl (Nat.le_of_ble_eq_true rfl) rfl ?_
  refine d0 rfl ?_
  refine S.move rfl ?_
  refine DrawR.nil ?_
  refine Run.ret ?_
  obtain rfl := some_inj h
  exact FinS.fin (End.all (And.intro rfl rfl))

theorem r51 (a0 : T_nat_Nat) (a1 : T_nat_Nat) (r : T_nat_Nat) (h : nat_Nat_Mul a0 a1 = some r) : Fn Try.prog 51 [.agg (c_nat_Nat a0), .agg (c_nat_Nat a1)] (.agg (c_nat_Nat r)) := by
 unfold nat_Nat_Mul at h
 refine Fn.ofS hm Try.func51 t51 (Nat.le_of_ble_eq_true rfl) ?_
 refine rs ?_
 refine ro ?_
 refine oc ?_
 refine S.box rfl rfl rfl rfl ?_
 refine oc ?_
 refine S.box rfl rfl rfl rfl ?_
 refine oc ?_
 refine S.alloc rfl ?_
 refine oz ?_
 refine rs ?_
 refine ro ?_
 refine oc ?_
 refine S.faddrP rfl rfl ?_
 refine oc ?_
 refine S.loadP rfl rfl rfl ?_
 refine oc ?_
 refine S.lenLM rfl ?_
 refine oc ?_
 refine S.faddrP rfl rfl ?_
 refine oc ?_
 refine S.loadP rfl rfl rfl ?_
 refine oc ?_
 refine S.lenLM rfl ?_
 refine oc ?_
 refine S.add rfl rfl rfl ?_
 obtain ⟨v1, h_v1, h⟩ := bnd_some h
 refine oc ?_
 refine S.mkSlM (c := c_u32) rfl rfl h_v1 rfl rfl ?_
 refine oc ?_
 refine S.move rfl ?_
 refine oz ?_
 refine Run.cutJ (J := fun st => ∃ g2 g3 g4 g19 : Nat, Is [(2, .ptr 2 g2 0), (3, .ptr 3 g3 0), (4, .ptr 4 g4 0), (5, .view 19 g19 1 (List.map c_u32 v1).length)] [(2, g2, some (.box [.sl (List.map c_u32 a0)])), (3, g3, some (.box [.sl (List.map c_u32 a1)])), (4, g4, some (.box [.nil])), (19, g19, some (.arr 83 1 (List.map c_u32 v1)))] st) ⟨_, _, _, _, ⟨rfl, rfl, rfl, rfl, trivial⟩, ⟨rfl, rfl, rfl, rfl, trivial⟩⟩ ?_
 rintro st ⟨g2, g3, g4, g19, hI⟩
 have hI : Is _ _ _ := hI
 revert hI
 refine fun hI => hI.elim ?_
 intro e H
 refine rs ?_
 refine rs ?_
 refine ro ?_
 refine oc ?_
 refine S.faddrP rfl rfl ?_
 refine oc ?_
 refine S.loadP rfl rfl rfl ?_
 refine oc ?_
 refine S.lenLM rfl ?_
 refine oc ?_
 refine S.move rfl ?_
 refine oz ?_
 refine Run.block ?_
 obtain ⟨x10, hx, h⟩ := bnd_some h
 refine Run.iter (I := (fun (s : Int × List Int) (st : St) => ∃ g3 g4 g19 : Nat, Is [(3, .ptr 3 g3 0), (4, .ptr 4 g4 0), (5, .view 19 g19 1 (List.map c_u32 s.2).length), (21, .sl (List.map c_u32 a0)), (22, .int .i64 (a0.length : Int)), (23, .int .i64 s.1)] [(3, g3, some (.box [.sl (List.map c_u32 a1)])), (4, g4, some (.box [.nil])), (19, g19, some (.arr 83 1 (List.map c_u32 s.2)))] st)) (X := (XOne (.exit 0) (fun (x : List Int) (st : St) => ∃ g4 g19 : Nat, Is [(4, .ptr 4 g4 0), (5, .view 19 g19 1 (List.map c_u32 x).length)] [(4, g4, some (.box [.nil])), (19, g19, some (.arr 83 1 (List.map c_u32 x)))] st))) hx ?_ ?_ ?_
 ·exact ⟨_, _, _, ⟨rfl, rfl, rfl, rfl, rfl, rfl, trivial⟩, ⟨rfl, rfl, rfl, trivial⟩⟩
 ·rintro s2 st ⟨g3, g4, g19, hI⟩ o h
  have hI : Is _ _ _ := hI
  revert hI
  refine fun hI => hI.elim ?_
  intro e H
  refine rs ?_
  refine ro ?_
  refine oc ?_
  refine S.lss rfl rfl rfl ?_
  refine oz ?_
  refine rs ?_
  rcases ite_some h with ⟨hc, h⟩ | ⟨hc, h⟩
  ·refine Run.setB (t := 24) rfl hc ?_
   refine Run.condT rfl ?_
   refine Run.skip ?_
   refine rs ?_
   refine Run.block ?_
   refine rs ?_
   refine ro ?_
   refine oc ?_
   refine S.move rfl ?_
   obtain ⟨v3, h_v3, h⟩ := bnd_some h
   refine oc ?_
   refine S.iaddrLM (c := c_u32) rfl rfl h_v3 (fun _ => rfl) ?_
   refine oc ?_
   refine S.loadC rfl rfl ?_
   refine oc ?_
   refine S.move rfl ?_
   refine oc ?_
   refine S.move rfl ?_
   refine oz ?_
   refine rs ?_
   refine ro ?_
   refine oc ?_
   refine S.move rfl ?_
   refine oz ?_
   refine rs ?_
   refine rs ?_
   refine ro ?_
   refine oc ?_
   refine S.faddrP rfl rfl ?_
   refine oc ?_
   refine S.loadP rfl rfl rfl ?_
   refine oc ?_
   refine S.lenLM rfl ?_
   refine oc ?_
   refine S.move rfl ?_
   refine oz ?_
   refine Run.block ?_
   obtain ⟨x8, hx, h⟩ := bnd_some h
   refine Run.iter (I := (fun (s : Int × Int × List Int) (st : St) => ∃ g3 g4 g19 : Nat, Is [(3, .ptr 3 g3 0), (4, .ptr 4 g4 0), (5, .view 19 g19 1 (List.map c_u32 s.2.2).length), (6, .int .i64 s2.1), (7, .int .u32 v3), (8, .int .u64 s.1), (21, .sl (List.map c_u32 a0)), (22, .int .i64 (a0.length : Int)), (23, .int .i64 s2.1), (29, .sl (List.map c_u32 a1)), (30, .int .i64 (a1.length : Int)), (31, .int .i64 s.2.1)] [(3, g3, some (.box [.sl (List.map c_u32 a1)])), (4, g4, some (.box [.nil])), (19, g19, some (.arr 83 1 (List.map c_u32 s.2.2)))] st)) (X := (XOne (.exit 2) (fun (x : Int × List Int) (st : St) => ∃ g3 g4 g19 : Nat, Is [(3, .ptr 3 g3 0), (4, .ptr 4 g4 0), (5, .view 19 g19 1 (List.map c_u32 x.2).length), (6, .int .i64 s2.1), (8, .int .u64 x.1), (21, .sl (List.map c_u32 a0)), (22, .int .i64 (a0.length : Int)), (23, .int .i64 s2.1)] [(3, g3, some (.box [.sl (List.map c_u32 a1)])), (4, g4, some (.box [.nil])), (19, g19, some (.arr 83 1 (List.map c_u32 x.2)))] st))) hx ?_ ?_ ?_
   ·exact ⟨_, _, _, ⟨rfl, rfl, rfl, rfl, rfl, rfl, rfl, rfl, rfl, rfl, rfl, rfl, trivial⟩, ⟨rfl, rfl, rfl, trivial⟩⟩
   ·rintro s4 st ⟨g3, g4, g19, hI⟩ o h
    have hI : Is _ _ _ := hI
    revert hI
    refine fun hI => hI.elim ?_
    intro e H
    refine rs ?_
    refine ro ?_
    refine oc ?_
    refine S.lss rfl rfl rfl ?_
    refine oz ?_
    refine rs ?_
    rcases ite_some h with ⟨hc, h⟩ | ⟨hc, h⟩
    ·refine Run.setB (t := 32) rfl hc ?_
     refine Run.condT rfl ?_
     refine Run.skip ?_
     refine rs ?_
     refine Run.block ?_
     refine rs ?_
     refine ro ?_
     refine oc ?_
     refine S.move rfl ?_
     obtain ⟨v5, h_v5, h⟩ := bnd_some h
     refine oc ?_
     refine S.iaddrLM (c := c_u32) rfl rfl h_v5 (fun _ => rfl) ?_
     refine oc ?_
     refine S.loadC rfl rfl ?_
     refine oc ?_
     refine S.move rfl ?_
     refine oc ?_
     refine S.move rfl ?_
     refine oz ?_
     refine rs ?_
     refine ro ?_
     refine oc ?_
     refine S.move rfl ?_
     refine oc ?_
     refine S.toInt rfl rfl ?_
     refine oc ?_
     refine S.move rfl ?_
     refine oc ?_
     refine S.toInt rfl rfl ?_
     refine oc ?_
     refine S.mul rfl rfl rfl ?_
     refine oc ?_
     refine S.move rfl ?_
     refine oc ?_
     refine S.move rfl ?_
     refine oc ?_
     refine S.move rfl ?_
     refine oc ?_
     refine S.add rfl rfl rfl ?_
     obtain ⟨v6, h_v6, h⟩ := bnd_some h
     refine oc ?_
     refine S.iaddrVM (c := c_u32) rfl rfl (get_in h_v6) ?_
     refine oc ?_
     refine S.loadEM rfl rfl (get_at h_v6) rfl ?_
     refine oc ?_
     refine S.toInt rfl rfl ?_
     refine oc ?_
     refine S.add rfl rfl rfl ?_
     refine oc ?_
     refine S.move rfl ?_
     refine oc ?_
     refine S.add rfl rfl rfl ?_
     refine oc ?_
     refine S.move rfl ?_
     refine oz ?_
     refine Run.cutJ (J := fun st => ∃ g3 g4 g19 : Nat, Is [(3, .ptr 3 g3 0), (4, .ptr 4 g4 0), (5, .view 19 g19 1 (List.map c_u32 s4.2.2).length), (6, .int .i64 s2.1), (7, .int .u32 v3), (9, .int .i64 s4.2.1), (11, .int .u64 (wrap .u64 ((wrap .u64 ((wrap .u64 ((wrap .u64 v3) * (wrap .u64 v5))) + (wrap .u64 v6))) + s4.1))), (21, .sl (List.map c_u32 a0)), (22, .int .i64 (a0.length : Int)), (23, .int .i64 s2.1), (29, .sl (List.map c_u32 a1)), (30, .int .i64 (a1.length : Int)), (31, .int .i64 s4.2.1)] [(3, g3, some (.box [.sl (List.map c_u32 a1)])), (4, g4, some (.box [.nil])), (19, g19, some (.arr 83 1 (List.map c_u32 s4.2.2)))] st) ⟨_, _, _, ⟨rfl, rfl, rfl, rfl, rfl, rfl, rfl, rfl, rfl, rfl, rfl, rfl, rfl, trivial⟩, ⟨rfl, rfl, rfl, trivial⟩⟩ ?_
     rintro st ⟨g3, g4, g19, hI⟩
     have hI : Is _ _ _ := hI
     revert hI
     refine fun hI => hI.elim ?_
     intro e H
     refine ro ?_
     refine oc ?_
     refine S.move rfl ?_
     refine oc ?_
     refine S.move rfl ?_
     refine oc ?_
     refine S.move rfl ?_
     refine oc ?_
     refine S.add rfl rfl rfl ?_
     refine oc ?_
     refine S.move rfl ?_
     refine oc ?_
     refine S.toInt rfl rfl ?_
     refine oc ?_
     refine S.move rfl ?_
     refine oc ?_
     refine S.shr rfl rfl (by decide) rfl ?_
     obtain ⟨v7, h_v7, h⟩ := bnd_some h
     refine oc ?_
     refine S.iaddrVM (c := c_u32) rfl rfl (put_in h_v7) ?_
     refine oc ?_
     refine S.putM rfl rfl rfl rfl rfl rfl (by decide) (put_at h_v7) (fun _ => rfl) ?_
     refine OpsR.retell (t := 5) rfl (lenPut c_u32 (put_at h_v7)) ?_
     refine oc ?_
     refine S.move rfl ?_
     refine oz ?_
     refine ro ?_
     refine oc ?_
     refine S.add rfl rfl rfl ?_
     refine oc ?_
     refine S.move rfl ?_
     refine oz ?_
     obtain rfl := some_inj h
     refine LoopPost.next ?_
     exact Leaf.done ⟨_, _, _, ⟨rfl, rfl, rfl, rfl, rfl, rfl, rfl, rfl, rfl, rfl, rfl, rfl, trivial⟩, ⟨rfl, rfl, rfl, trivial⟩⟩
    ·refine Run.setB (t := 32) rfl hc ?_
     refine Run.condF rfl ?_
     refine Run.exit ?_
     obtain rfl := some_inj h
     refine LoopPost.out nofun ?_
     exact Leaf.done (XOne.mk ⟨_, _, _, ⟨rfl, rfl, rfl, rfl, rfl, rfl, rfl, rfl, trivial⟩, ⟨rfl, rfl, rfl, trivial⟩⟩)
   ·intro e0 st0 hX
    rcases hX with ⟨hX⟩
    obtain ⟨g3, g4, g19, hI⟩ := hX
    revert hI
    refine fun hI => hI.elim ?_
    intro e H
    refine ro ?_
    refine oc ?_
    refine S.move rfl ?_
    refine oc ?_
    refine S.move rfl ?_
    refine oc ?_
    refine S.faddrP rfl rfl ?_
    refine oc ?_
    refine S.loadP rfl rfl rfl ?_
    refine oc ?_
    refine S.lenLM rfl ?_
    refine oc ?_
    refine S.add rfl rfl rfl ?_
    refine oc ?_
    refine S.move rfl ?_
    refine oc ?_
    refine S.toInt rfl rfl ?_
    obtain ⟨v9, h_v9, h⟩ := bnd_some h
    refine oc ?_
    refine S.iaddrVM (c := c_u32) rfl rfl (put_in h_v9) ?_
    refine oc ?_
    refine S.putM rfl rfl rfl rfl rfl rfl (by decide) (put_at h_v9) (fun _ => rfl) ?_
    refine OpsR.retell (t := 5) rfl (lenPut c_u32 (put_at h_v9)) ?_
    refine oz ?_
    refine ro ?_
    refine oc ?_
    refine S.add rfl rfl rfl ?_
    refine oc ?_
    refine S.move rfl ?_
    refine oz ?_
    obtain rfl := some_inj h
    refine LoopPost.next ?_
    exact Leaf.done ⟨_, _, _, ⟨rfl, rfl, rfl, rfl, rfl, rfl, trivial⟩, ⟨rfl, rfl, rfl, trivial⟩⟩
  ·refine Run.setB (t := 24) rfl hc ?_
   refine Run.condF rfl ?_
   refine Run.exit ?_
   obtain rfl := some_inj h
   refine LoopPost.out nofun ?_
   exact Leaf.done (XOne.mk ⟨_, _, ⟨rfl, rfl, trivial⟩, ⟨rfl, rfl, trivial⟩⟩)
 ·intro e0 st0 hX
  rcases hX with ⟨hX⟩
  obtain ⟨g4, g19, hI⟩ := hX
  revert hI
  refine fun hI => hI.elim ?_
  intro e H
  refine rs ?_
  refine ro ?_
  refine oc ?_
  refine S.move rfl ?_
  obtain ⟨v11, h_v11, h⟩ := bnd_some h
  refine oc ?_
  refine S.call (And.intro rfl (And.intro rfl (And.intro rfl (And.intro rfl rfl)))) (r58 x10 _ h_v11) rfl ?_
  refine oc ?_
  refine S.storeP rfl rfl rfl rfl rfl rfl (Nat.le_of_ble_eq_true rfl) rfl ?_
  refine oz ?_
  refine Run.ret ?_
  obtain rfl := some_inj h
  exact FinS.fin (End.cell rfl rfl rfl rfl rfl)

theorem r62 (a0 : T_nat_Nat) (a1 : T_nat_Nat) (r : T_nat_Nat) (h : nat_Nat_Add a0 a1 = some r) : Fn Try.prog 62 [.agg (c_nat_Nat a0), .agg (c_nat_Nat a1)] (.agg (c_nat_Nat r)) := by
 unfold nat_Nat_Add at h
 refine Fn.ofS hm Try.func62 t62 (Nat.le_of_ble_eq_true rfl) ?_
 refine rs ?_
 refine ro ?_
 refine oc ?_
 refine S.box rfl rfl rfl rfl ?_
 refine oc ?_
 refine S.box rfl rfl rfl rfl ?_
 refine oc ?_
 refine S.alloc rfl ?_
 refine oz ?_
 refine rs ?_
 refine Run.drawn ?_
 refine d0 rfl ?_
 refine S.faddrP rfl rfl ?_
 refine d1 (x := (_, _)) rfl rfl ?_
 refine S.loadP rfl rfl rfl ?_
 refine d0 rfl ?_
 refine S.faddrP rfl rfl ?_
 refine d1 (x := (_, _)) rfl rfl ?_
 refine S.loadP rfl rfl rfl ?_
 refine d0 rfl ?_
 refine S.move rfl ?_
 refine d0 rfl ?_
 refine S.move rfl ?_
 refine DrawR.nil ?_
 refine rs ?_
 obtain ⟨x1, hx, h⟩ := lt_some h
 refine Run.joinG (X := (XOne .normal (fun (x : List Int × List Int) (st : St) => ∃ g4 : Nat, Is [(4, .ptr 4 g4 0), (5, .sl (List.map c_u32 x.1)), (6, .sl (List.map c_u32 x.2))] [(4, g4, some (.box [.nil]))] st))) (x := x1) ?_ ?_
 ·replace h := hx
  refine rs ?_
  refine ro ?_
  refine oc ?_
  refine S.move rfl ?_
  refine oc ?_
  refine S.lenLM rfl ?_
  refine oc ?_
  refine S.move rfl ?_
  refine oc ?_
  refine S.lenLM rfl ?_
  refine oc ?_
  refine S.lss rfl rfl rfl ?_
  refine oz ?_
  refine Run.cutJ (J := fun st => ∃ g4 : Nat, Is [(4, .ptr 4 g4 0), (5, .sl (List.map c_u32 a0)), (6, .sl (List.map c_u32 a1)), (19, .bool (decide ((a0.length : Int) < (a1.length : Int))))] [(4, g4, some (.box [.nil]))] st) ⟨_, ⟨rfl, rfl, rfl, rfl, trivial⟩, ⟨rfl, trivial⟩⟩ ?_
  rintro st ⟨g4, hI⟩
  have hI : Is _ _ _ := hI
  revert hI
  refine fun hI => hI.elim ?_
  intro e H
  rcases itep h with ⟨hc, h⟩ | ⟨hc, h⟩
  ·refine Run.setB (t := 19) rfl hc ?_
   refine Run.condT rfl ?_
   refine ro ?_
   refine oc ?_
   refine S.move rfl ?_
   refine oc ?_
   refine S.move rfl ?_
   refine oc ?_
   refine S.move rfl ?_
   refine oc ?_
   refine S.move rfl ?_
   refine oz ?_
   obtain rfl := some_inj h
   refine JP.mk ?_
   exact Leaf.done (XOne.mk ⟨_, ⟨rfl, rfl, rfl, trivial⟩, ⟨rfl, trivial⟩⟩)
  ·refine Run.setB (t := 19) rfl hc ?_
   refine Run.condF rfl ?_
   refine Run.skip ?_
   obtain rfl := some_inj h
   refine JP.mk ?_
   exact Leaf.done (XOne.mk ⟨_, ⟨rfl, rfl, rfl, trivial⟩, ⟨rfl, trivial⟩⟩)
 ·intro e0 st0 hX
  rcases hX with ⟨hX⟩
  obtain ⟨g4, hI⟩ := hX
  revert hI
  refine fun hI => hI.elim ?_
  intro e H
  refine rs ?_
  refine ro ?_
  refine oc ?_
  refine S.move rfl ?_
  refine oc ?_
  refine S.lenLM rfl ?_
  refine oc ?_
  refine S.add rfl rfl rfl ?_
  obtain ⟨v2, h_v2, h⟩ := bnd_some h
  refine oc ?_
  refine S.mkSlM (c := c_u32) rfl rfl h_v2 rfl rfl ?_
  refine oc ?_
  refine S.move rfl ?_
  refine oz ?_
  refine rs ?_
  refine ro ?_
  refine oc ?_
  refine S.move rfl ?_
  refine oz ?_
  refine rs ?_
  refine rs ?_
  refine ro ?_
  refine oc ?_
  refine S.move rfl ?_
  refine oc ?_
  refine S.lenLM rfl ?_
  refine oc ?_
  refine S.move rfl ?_
  refine oz ?_
  refine Run.block ?_
  obtain ⟨x9, hx, h⟩ := bnd_some h
  refine Run.iter (I := (fun (s : Int × Int × List Int) (st : St) => ∃ g4 g25 : Nat, Is [(4, .ptr 4 g4 0), (5, .sl (List.map c_u32 x1.1)), (6, .sl (List.map c_u32 x1.2)), (7, .view 25 g25 1 (List.map c_u32 s.2.2).length), (8, .int .u32 s.1), (27, .int .i64 (x1.1.length : Int)), (28, .int .i64 s.2.1)] [(4, g4, some (.box [.nil])), (25, g25, some (.arr 83 1 (List.map c_u32 s.2.2)))] st)) (X := (XOne (.exit 0) (fun (x : Int × List Int) (st : St) => ∃ g4 g25 : Nat, Is [(4, .ptr 4 g4 0), (5, .sl (List.map c_u32 x1.1)), (7, .view 25 g25 1 (List.map c_u32 x.2).length), (8, .int .u32 x.1)] [(4, g4, some (.box [.nil])), (25, g25, some (.arr 83 1 (List.map c_u32 x.2)))] st))) hx ?_ ?_ ?_
  ·exact ⟨_, _, ⟨rfl, rfl, rfl, rfl, rfl, rfl, rfl, trivial⟩, ⟨rfl, rfl, trivial⟩⟩
  ·rintro s3 st ⟨g4, g25, hI⟩ o h
   have hI : Is _ _ _ := hI
   revert hI
   refine fun hI => hI.elim ?_
   intro e H
   refine rs ?_
   refine ro ?_
   refine oc ?_
   refine S.lss rfl rfl rfl ?_
   refine oz ?_
   refine rs ?_
   rcases ite_some h with ⟨hc, h⟩ | ⟨hc, h⟩
   ·refine Run.setB (t := 29) rfl hc ?_
    refine Run.condT rfl ?_
    refine Run.skip ?_
    refine rs ?_
    refine Run.block ?_
    refine rs ?_
    refine ro ?_
    refine oc ?_
    refine S.move rfl ?_
    refine oc ?_
    refine S.move rfl ?_
    refine oz ?_
    refine rs ?_
    refine ro ?_
    refine oc ?_
    refine S.move rfl ?_
    refine oz ?_
    refine rs ?_
    obtain ⟨x5, hx, h⟩ := bnd_some h
    refine Run.joinG (X := (XOne .normal (fun (x : Int) (st : St) => ∃ g4 g25 : Nat, Is [(4, .ptr 4 g4 0), (5, .sl (List.map c_u32 x1.1)), (6, .sl (List.map c_u32 x1.2)), (7, .view 25 g25 1 (List.map c_u32 s3.2.2).length), (8, .int .u32 s3.1), (9, .int .i64 s3.2.1), (10, .int .u32 x), (27, .int .i64 (x1.1.length : Int)), (28, .int .i64 s3.2.1)] [(4, g4, some (.box [.nil])), (25, g25, some (.arr 83 1 (List.map c_u32 s3.2.2)))] st))) (x := x5) ?_ ?_
    ·replace h := hx
     refine rs ?_
     refine ro ?_
     refine oc ?_
     refine S.move rfl ?_
     refine oc ?_
     refine S.move rfl ?_
     refine oc ?_
     refine S.lenLM rfl ?_
     refine oc ?_
     refine S.lss rfl rfl rfl ?_
     refine oz ?_
     rcases ite_some h with ⟨hc, h⟩ | ⟨hc, h⟩
     ·refine Run.setB (t := 34) rfl hc ?_
      refine Run.condT rfl ?_
      refine ro ?_
      refine oc ?_
      refine S.move rfl ?_
      refine oc ?_
      refine S.move rfl ?_
      obtain ⟨v4, h_v4, h⟩ := bnd_some h
      refine oc ?_
      refine S.iaddrLM (c := c_u32) rfl rfl h_v4 (fun _ => rfl) ?_
      refine oc ?_
      refine S.loadC rfl rfl ?_
      refine oc ?_
      refine S.move rfl ?_
      refine oz ?_
      obtain rfl := some_inj h
      refine JP.mk ?_
      exact Leaf.done (XOne.mk ⟨_, _, ⟨rfl, rfl, rfl, rfl, rfl, rfl, rfl, rfl, rfl, trivial⟩, ⟨rfl, rfl, trivial⟩⟩)
     ·refine Run.setB (t := 34) rfl hc ?_
      refine Run.condF rfl ?_
      refine Run.skip ?_
      obtain rfl := some_inj h
      refine JP.mk ?_
      exact Leaf.done (XOne.mk ⟨_, _, ⟨rfl, rfl, rfl, rfl, rfl, rfl, rfl, rfl, rfl, trivial⟩, ⟨rfl, rfl, trivial⟩⟩)
    ·intro e0 st0 hX
     rcases hX with ⟨hX⟩
     obtain ⟨g4, g25, hI⟩ := hX
     revert hI
     refine fun hI => hI.elim ?_
     intro e H
     refine ro ?_
     refine oc ?_
     refine S.move rfl ?_
     refine oc ?_
     refine S.move rfl ?_
     refine oc ?_
     refine S.move rfl ?_
     refine oc ?_
     refine S.move rfl ?_
     obtain ⟨v6, h_v6, h⟩ := bnd_some h
     refine oc ?_
     refine S.iaddrLM (c := c_u32) rfl rfl h_v6 (fun _ => rfl) ?_
     refine oc ?_
     refine S.loadC rfl rfl ?_
     refine oc ?_
     refine S.move rfl ?_
     refine oc ?_
     refine S.move rfl ?_
     obtain ⟨v7, h_v7, h⟩ := bnd_some h
     refine oc ?_
     refine S.call (And.intro rfl rfl) (r79 v6 x5 s3.1 _ h_v7) rfl ?_
     refine oc ?_
     refine S.move rfl ?_
     refine oc ?_
     refine S.extract rfl rfl ?_
     refine oc ?_
     refine S.extract rfl rfl ?_
     obtain ⟨v8, h_v8, h⟩ := bnd_some h
     refine oc ?_
     refine S.iaddrVM (c := c_u32) rfl rfl (put_in h_v8) ?_
     refine oc ?_
     refine S.putM rfl rfl rfl rfl rfl rfl (by decide) (put_at h_v8) (fun _ => rfl) ?_
     refine OpsR.retell (t := 7) rfl (lenPut c_u32 (put_at h_v8)) ?_
     refine oc ?_
     refine S.move rfl ?_
     refine oz ?_
     refine Run.cutJ (J := fun st => ∃ g4 g25 : Nat, Is [(4, .ptr 4 g4 0), (5, .sl (List.map c_u32 x1.1)), (6, .sl (List.map c_u32 x1.2)), (7, .view 25 g25 1 (List.map c_u32 v8).length), (8, .int .u32 v7.2), (27, .int .i64 (x1.1.length : Int)), (28, .int .i64 s3.2.1)] [(4, g4, some (.box [.nil])), (25, g25, some (.arr 83 1 (List.map c_u32 v8)))] st) ⟨_, _, ⟨rfl, rfl, rfl, rfl, rfl, rfl, rfl, trivial⟩, ⟨rfl, rfl, trivial⟩⟩ ?_
     rintro st ⟨g4, g25, hI⟩
     have hI : Is _ _ _ := hI
     revert hI
     refine fun hI => hI.elim ?_
     intro e H
     refine ro ?_
     refine oc ?_
     refine S.add rfl rfl rfl ?_
     refine oc ?_
     refine S.move rfl ?_
     refine oz ?_
     obtain rfl := some_inj h
     refine LoopPost.next ?_
     exact Leaf.done ⟨_, _, ⟨rfl, rfl, rfl, rfl, rfl, rfl, rfl, trivial⟩, ⟨rfl, rfl, trivial⟩⟩
   ·refine Run.setB (t := 29) rfl hc ?_
    refine Run.condF rfl ?_
    refine Run.exit ?_
    obtain rfl := some_inj h
    refine LoopPost.out nofun ?_
    exact Leaf.done (XOne.mk ⟨_, _, ⟨rfl, rfl, rfl, rfl, trivial⟩, ⟨rfl, rfl, trivial⟩⟩)
  ·intro e0 st0 hX
   rcases hX with ⟨hX⟩
   obtain ⟨g4, g25, hI⟩ := hX
   revert hI
   refine fun hI => hI.elim ?_
   intro e H
   refine rs ?_
   refine ro ?_
   refine oc ?_
   refine S.move rfl ?_
   refine oc ?_
   refine S.move rfl ?_
   refine oc ?_
   refine S.lenLM rfl ?_
   refine oc ?_
   refine S.move rfl ?_
   obtain ⟨v10, h_v10, h⟩ := bnd_some h
   refine oc ?_
   refine S.iaddrVM (c := c_u32) rfl rfl (put_in h_v10) ?_
   refine oc ?_
   refine S.putM rfl rfl rfl rfl rfl rfl (by decide) (put_at h_v10) (fun _ => rfl) ?_
   refine OpsR.retell (t := 7) rfl (lenPut c_u32 (put_at h_v10)) ?_
   refine oz ?_
   refine rs ?_
   refine ro ?_
   refine oc ?_
   refine S.move rfl ?_
   obtain ⟨v11, h_v11, h⟩ := bnd_some h
   refine oc ?_
   refine S.call (And.intro rfl (And.intro rfl (And.intro rfl (And.intro rfl rfl)))) (r58 v10 _ h_v11) rfl ?_
   refine oc ?_
   refine S.storeP rfl rfl rfl rfl rfl rfl (Nat.le_of_ble_eq_true rfl) rfl ?_
   refine oz ?_
   refine Run.ret ?_
   obtain rfl := some_inj h
   exact FinS.fin (End.cell rfl rfl rfl rfl rfl)

theorem r42 (a0 : Str) (r : T_nat_Nat × Bool) (h : nat_Parse a0 = some r) : Fn Try.prog 42 [.str (bs a0)] (.tup [.agg (c_nat_Nat r.1), .bool r.2]) := by
 unfold nat_Parse at h
 refine Fn.ofS hm Try.func42 t42 (Nat.le_of_ble_eq_true rfl) ?_
 refine rs ?_
 refine ro ?_
 refine oc ?_
 refine S.alloc rfl ?_
 refine oc ?_
 refine S.move rfl ?_
 refine oz ?_
 refine rs ?_
 refine rs ?_
 refine ro ?_
 refine oc ?_
 refine S.move rfl ?_
 refine oc ?_
 refine S.eqlSM rfl rfl ?_
 refine oc ?_
 refine S.move rfl ?_
 obtain ⟨x1, hx, h⟩ := lt_some h
 refine OpsR.splitAt 4 (J := fun st => ∃ g2 : Nat, Is [(0, .str (bs a0)), (2, .ptr 2 g2 0), (16, .bool x1)] [(2, g2, some (.box [.nil]))] st) ?_ ?_
 ·replace h := hx
  rcases itep h with ⟨hc, h⟩ | ⟨hc, h⟩
  ·refine OpsR.setB (t := 12) rfl hc ?_
   refine oc ?_
   refine S.off rfl (by decide) ?_
   refine oc ?_
   refine S.off rfl (by decide) ?_
   refine oc ?_
   refine S.off rfl (by decide) ?_
   refine oc ?_
   refine S.pick rfl rfl rfl rfl ?_
   obtain rfl := some_inj h
   refine oz ?_
   exact ⟨_, ⟨rfl, rfl, rfl, trivial⟩, ⟨rfl, trivial⟩⟩
  ·refine OpsR.setB (t := 12) rfl hc ?_
   refine oc ?_
   refine S.on rfl ?_
   refine S.move rfl ?_
   refine oc ?_
   refine S.on rfl ?_
   refine S.lenSM rfl ?_
   refine oc ?_
   refine S.on rfl ?_
   refine S.gtr rfl rfl rfl ?_
   refine oc ?_
   refine S.pick rfl rfl rfl rfl ?_
   obtain rfl := some_inj h
   refine oz ?_
   exact ⟨_, ⟨rfl, rfl, rfl, trivial⟩, ⟨rfl, trivial⟩⟩
 ·rintro st ⟨g2, hI⟩
  have hI : Is _ _ _ := hI
  revert hI
  refine fun hI => hI.elim ?_
  intro e H
  refine oz ?_
  rcases ite_some h with ⟨hc, h⟩ | ⟨hc, h⟩
  ·refine Run.setB (t := 16) rfl hc ?_
   refine Run.condT rfl ?_
   refine rs ?_
   refine ro ?_
   refine oc ?_
   refine S.build (And.intro rfl rfl) rfl ?_
   refine oc ?_
   refine S.storeP rfl rfl rfl rfl rfl rfl (Nat.le_of_ble_eq_true rfl) rfl ?_
   refine oc ?_
   refine S.move rfl ?_
   refine oz ?_
   refine Run.ret ?_
   obtain rfl := some_inj h
   exact FinS.fin (End.all (And.intro rfl rfl))
  ·refine Run.setB (t := 16) rfl hc ?_
   refine Run.condF rfl ?_
   refine Run.skip ?_
   refine rs ?_
   refine ro ?_
   refine oc ?_
   refine S.alloc rfl ?_
   refine oz ?_
   refine rs ?_
   refine Run.block ?_
   refine Run.ghost (Ghost.nilSlCell (b := 4) (k := 0) rfl rfl rfl) ?_
   obtain ⟨x15, hx, h⟩ := bnd_some h
   refine Run.iter (I := (fun (s : Str × List Int) (st : St) => ∃ g2 g4 : Nat, Is [(0, .str (bs s.1)), (2, .ptr 2 g2 0), (4, .ptr 4 g4 0)] [(2, g2, some (.box [.nil])), (4, g4, some (.box [.sl (List.map c_u32 s.2)]))] st)) (X := (XSum (XOne (.exit 0) (fun (x : List Int) (st : St) => ∃ g2 g4 : Nat, Is [(2, .ptr 2 g2 0), (4, .ptr 4 g4 0)] [(2, g2, some (.box [.nil])), (4, g4, some (.box [.sl (List.map c_u32 x)]))] st)) (XRet [.cell 2 (some 1), .tmp 3] (fun (x : T_nat_Nat × Bool) => .tup [.agg (c_nat_Nat x.1), .bool x.2])))) hx ?_ ?_ ?_
   ·exact ⟨_, _, ⟨rfl, rfl, rfl, trivial⟩, ⟨rfl, rfl, trivial⟩⟩
   ·rintro s2 st ⟨g2, g4, hI⟩ o h
    have hI : Is _ _ _ := hI
    revert hI
    refine fun hI => hI.elim ?_
    intro e H
    refine rs ?_
    refine rs ?_
    refine ro ?_
    refine oc ?_
    refine S.move rfl ?_
    refine oc ?_
    refine S.lenSM rfl ?_
    refine oc ?_
    refine S.gtr rfl rfl rfl ?_
    refine oz ?_
    rcases ite_some h with ⟨hc, h⟩ | ⟨hc, h⟩
    ·refine Run.setB (t := 20) rfl hc ?_
     refine Run.condT rfl ?_
     refine Run.skip ?_
     refine Run.block ?_
     refine rs ?_
     refine ro ?_
     refine oc ?_
     refine S.move rfl ?_
     refine oc ?_
     refine S.lenSM rfl ?_
     refine oc ?_
     refine S.min rfl rfl rfl ?_
     refine oc ?_
     refine S.move rfl ?_
     refine oz ?_
     refine rs ?_
     refine ro ?_
     refine oc ?_
     refine S.move rfl ?_
     refine oc ?_
     refine S.move rfl ?_
     refine oz ?_
     refine rs ?_
     refine rs ?_
     refine ro ?_
     refine oc ?_
     refine S.move rfl ?_
     refine oc ?_
     refine S.move rfl ?_
     obtain ⟨v3, h_v3, h⟩ := bnd_some h
     refine oc ?_
     refine S.sliceSFT rfl rfl h_v3 ?_
     refine oc ?_
     refine S.s2bM rfl ?_
     refine oc ?_
     refine S.lenLM rfl ?_
     refine oc ?_
     refine S.move rfl ?_
     refine oz ?_
     refine Run.cutJ (J := fun st => ∃ g2 g4 : Nat, Is [(0, .str (bs s2.1)), (2, .ptr 2 g2 0), (4, .ptr 4 g4 0), (5, .int .i64 (mnI 9 (s2.1.length : Int))), (6, .int .u64 0), (7, .int .u64 1), (27, .sl (List.map c_u8 (codes v3))), (28, .int .i64 ((codes v3).length : Int)), (29, .int .i64 0)] [(2, g2, some (.box [.nil])), (4, g4, some (.box [.sl (List.map c_u32 s2.2)]))] st) ⟨_, _, ⟨rfl, rfl, rfl, rfl, rfl, rfl, rfl, rfl, rfl, trivial⟩, ⟨rfl, rfl, trivial⟩⟩ ?_
     rintro st ⟨g2, g4, hI⟩
     have hI : Is _ _ _ := hI
     revert hI
     refine fun hI => hI.elim ?_
     intro e H
     refine Run.block ?_
     obtain ⟨x7, hx, h⟩ := bnd_some h
     refine Run.iter (I := (fun (s : Int × Int × Int) (st : St) => ∃ g2 g4 : Nat, Is [(0, .str (bs s2.1)), (2, .ptr 2 g2 0), (4, .ptr 4 g4 0), (5, .int .i64 (mnI 9 (s2.1.length : Int))), (6, .int .u64 s.1), (7, .int .u64 s.2.1), (27, .sl (List.map c_u8 (codes v3))), (28, .int .i64 ((codes v3).length : Int)), (29, .int .i64 s.2.2)] [(2, g2, some (.box [.nil])), (4, g4, some (.box [.sl (List.map c_u32 s2.2)]))] st)) (X := (XSum (XOne (.exit 2) (fun (x : Int × Int) (st : St) => ∃ g2 g4 : Nat, Is [(0, .str (bs s2.1)), (2, .ptr 2 g2 0), (4, .ptr 4 g4 0), (5, .int .i64 (mnI 9 (s2.1.length : Int))), (6, .int .u64 x.1), (7, .int .u64 x.2)] [(2, g2, some (.box [.nil])), (4, g4, some (.box [.sl (List.map c_u32 s2.2)]))] st)) (XRet [.cell 2 (some 1), .tmp 3] (fun (x : T_nat_Nat × Bool) => .tup [.agg (c_nat_Nat x.1), .bool x.2])))) hx ?_ ?_ ?_
     ·exact ⟨_, _, ⟨rfl, rfl, rfl, rfl, rfl, rfl, rfl, rfl, rfl, trivial⟩, ⟨rfl, rfl, trivial⟩⟩
     ·rintro s4 st ⟨g2, g4, hI⟩ o h
      have hI : Is _ _ _ := hI
      revert hI
      refine fun hI => hI.elim ?_
      intro e H
      refine rs ?_
      refine ro ?_
      refine oc ?_
      refine S.lss rfl rfl rfl ?_
      refine oz ?_
      refine rs ?_
      rcases ite_some h with ⟨hc, h⟩ | ⟨hc, h⟩
      ·refine Run.setB (t := 30) rfl hc ?_
       refine Run.condT rfl ?_
       refine Run.skip ?_
       refine rs ?_
       refine Run.block ?_
       refine rs ?_
       refine ro ?_
       obtain ⟨v5, h_v5, h⟩ := bnd_some h
       refine oc ?_
       refine S.iaddrLM (c := c_u8) rfl rfl h_v5 (fun _ => rfl) ?_
       refine oc ?_
       refine S.loadC rfl rfl ?_
       refine oc ?_
       refine S.move rfl ?_
       refine oz ?_
       refine rs ?_
       refine rs ?_
       refine ro ?_
       refine oc ?_
       refine S.move rfl ?_
       refine oc ?_
       refine S.lss rfl rfl rfl ?_
       refine oc ?_
       refine S.move rfl ?_
       obtain ⟨x6, hx, h⟩ := lt_some h
       refine OpsR.splitAt 3 (J := fun st => ∃ g2 g4 : Nat, Is [(0, .str (bs s2.1)), (2, .ptr 2 g2 0), (4, .ptr 4 g4 0), (5, .int .i64 (mnI 9 (s2.1.length : Int))), (6, .int .u64 s4.1), (7, .int .u64 s4.2.1), (9, .int .u8 v5), (27, .sl (List.map c_u8 (codes v3))), (28, .int .i64 ((codes v3).length : Int)), (29, .int .i64 s4.2.2), (38, .bool x6)] [(2, g2, some (.box [.nil])), (4, g4, some (.box [.sl (List.map c_u32 s2.2)]))] st) ?_ ?_
       ·replace h := hx
        rcases itep h with ⟨hc, h⟩ | ⟨hc, h⟩
        ·refine OpsR.setB (t := 35) rfl hc ?_
         refine oc ?_
         refine S.off rfl (by decide) ?_
         refine oc ?_
         refine S.off rfl (by decide) ?_
         refine oc ?_
         refine S.pick rfl rfl rfl rfl ?_
         obtain rfl := some_inj h
         refine oz ?_
         exact ⟨_, _, ⟨rfl, rfl, rfl, rfl, rfl, rfl, rfl, rfl, rfl, rfl, rfl, trivial⟩, ⟨rfl, rfl, trivial⟩⟩
        ·refine OpsR.setB (t := 35) rfl hc ?_
         refine oc ?_
         refine S.on rfl ?_
         refine S.move rfl ?_
         refine oc ?_
         refine S.on rfl ?_
         refine S.gtr rfl rfl rfl ?_
         refine oc ?_
         refine S.pick rfl rfl rfl rfl ?_
         obtain rfl := some_inj h
         refine oz ?_
         exact ⟨_, _, ⟨rfl, rfl, rfl, rfl, rfl, rfl, rfl, rfl, rfl, rfl, rfl, trivial⟩, ⟨rfl, rfl, trivial⟩⟩
       ·rintro st ⟨g2, g4, hI⟩
        have hI : Is _ _ _ := hI
        revert hI
        refine fun hI => hI.elim ?_
        intro e H
        refine oz ?_
        rcases ite_some h with ⟨hc, h⟩ | ⟨hc, h⟩
        ·refine Run.setB (t := 38) rfl hc ?_
         refine Run.condT rfl ?_
         refine rs ?_
         refine ro ?_
         refine oc ?_
         refine S.build (And.intro rfl rfl) rfl ?_
         refine oc ?_
         refine S.storeP rfl rfl rfl rfl rfl rfl (Nat.le_of_ble_eq_true rfl) rfl ?_
         refine oc ?_
         refine S.move rfl ?_
         refine oz ?_
         refine Run.ret ?_
         obtain rfl := some_inj h
         exact LoopPost.out nofun (Leaf.done (XSum.r (XRet.mk (FinS.fin (End.all (And.intro rfl rfl))))))
        ·refine Run.setB (t := 38) rfl hc ?_
         refine Run.condF rfl ?_
         refine Run.skip ?_
         refine ro ?_
         refine oc ?_
         refine S.move rfl ?_
         refine oc ?_
         refine S.mul rfl rfl rfl ?_
         refine oc ?_
         refine S.move rfl ?_
         refine oc ?_
         refine S.sub rfl rfl rfl ?_
         refine oc ?_
         refine S.toInt rfl rfl ?_
         refine oc ?_
         refine S.add rfl rfl rfl ?_
         refine oc ?_
         refine S.move rfl ?_
         refine oc ?_
         refine S.mul rfl rfl rfl ?_
         refine oc ?_
         refine S.move rfl ?_
         refine oc ?_
         refine S.move rfl ?_
         refine oz ?_
         refine ro ?_
         refine oc ?_
         refine S.add rfl rfl rfl ?_
         refine oc ?_
         refine S.move rfl ?_
         refine oz ?_
         obtain rfl := some_inj h
         refine LoopPost.next ?_
         exact Leaf.done ⟨_, _, ⟨rfl, rfl, rfl, rfl, rfl, rfl, rfl, rfl, rfl, trivial⟩, ⟨rfl, rfl, trivial⟩⟩
      ·refine Run.setB (t := 30) rfl hc ?_
       refine Run.condF rfl ?_
       refine Run.exit ?_
       obtain rfl := some_inj h
       refine LoopPost.out nofun ?_
       exact Leaf.done (XSum.l (XOne.mk ⟨_, _, ⟨rfl, rfl, rfl, rfl, rfl, rfl, trivial⟩, ⟨rfl, rfl, trivial⟩⟩))
     ·intro e0 st0 hX
      revert h hX
      rcases x7 with x8 | x9
      ·intro h hX
       replace h := sm_l h
       replace hX := XSum.invl hX
       rcases hX with ⟨hX⟩
       obtain ⟨g2, g4, hI⟩ := hX
       revert hI
       refine fun hI => hI.elim ?_
       intro e H
       refine rs ?_
       refine Run.drawn ?_
       refine d1 (x := (_, _)) rfl rfl ?_
       refine S.loadP rfl rfl rfl ?_
       refine d0 rfl ?_
       refine S.move rfl ?_
       obtain ⟨v10, h_v10, h⟩ := bnd_some h
       refine d1 (x := (_, _)) rfl rfl ?_
       refine S.call (And.intro rfl rfl) (r33 x8.2 _ h_v10) rfl ?_
       obtain ⟨v11, h_v11, h⟩ := bnd_some h
       refine d1 (x := (_, _)) rfl rfl ?_
       refine S.call (And.intro rfl rfl) (r51 s2.2 v10 _ h_v11) rfl ?_
       refine d0 rfl ?_
       refine S.move rfl ?_
       obtain ⟨v12, h_v12, h⟩ := bnd_some h
       refine d1 (x := (_, _)) rfl rfl ?_
       refine S.call (And.intro rfl rfl) (r33 x8.1 _ h_v12) rfl ?_
       obtain ⟨v13, h_v13, h⟩ := bnd_some h
       refine d1 (x := (_, _)) rfl rfl ?_
       refine S.call (And.intro rfl rfl) (r62 v11 v12 _ h_v13) rfl ?_
       refine d1 (x := (_, _)) rfl rfl ?_
       refine S.storeP rfl rfl rfl rfl rfl rfl (Nat.le_of_ble_eq_true rfl) rfl ?_
       refine DrawR.nil ?_
       refine ro ?_
       refine oc ?_
       refine S.move rfl ?_
       refine oc ?_
       refine S.move rfl ?_
       obtain ⟨v14, h_v14, h⟩ := bnd_some h
       refine oc ?_
       refine S.sliceSTF rfl rfl h_v14 ?_
       refine oc ?_
       refine S.move rfl ?_
       refine oz ?_
       obtain rfl := some_inj h
       refine LoopPost.next ?_
       exact Leaf.done ⟨_, _, ⟨rfl, rfl, rfl, trivial⟩, ⟨rfl, rfl, trivial⟩⟩
      ·intro h hX
       replace h := sm_r h
       replace hX := XSum.invr hX
       rcases hX with ⟨hf⟩
       obtain rfl := some_inj h
       exact LoopPost.out nofun (Leaf.done (XSum.r (XRet.mk (hf))))
    ·refine Run.setB (t := 20) rfl hc ?_
     refine Run.condF rfl ?_
     refine Run.exit ?_
     obtain rfl := some_inj h
     refine LoopPost.out nofun ?_
     exact Leaf.done (XSum.l (XOne.mk ⟨_, _, ⟨rfl, rfl, trivial⟩, ⟨rfl, rfl, trivial⟩⟩))
   ·intro e0 st0 hX
    revert h hX
    rcases x15 with x16 | x17
    ·intro h hX
     replace h := sm_l h
     replace hX := XSum.invl hX
     rcases hX with ⟨hX⟩
     obtain ⟨g2, g4, hI⟩ := hX
     revert hI
     refine fun hI => hI.elim ?_
     intro e H
     refine rs ?_
     refine ro ?_
     refine oc ?_
     refine S.loadP rfl rfl rfl ?_
     refine oc ?_
     refine S.storeP rfl rfl rfl rfl rfl rfl (Nat.le_of_ble_eq_true rfl) rfl ?_
     refine oc ?_
     refine S.move rfl ?_
     refine oz ?_
     refine Run.ret ?_
     obtain rfl := some_inj h
     exact FinS.fin (End.all (And.intro rfl rfl))
    ·intro h hX
     replace h := sm_r h
     replace hX := XSum.invr hX
     rcases hX with ⟨hf⟩
     obtain rfl := some_inj h
     exact hf

theorem r19 (a0 : T_api_Num) (r : T_ratio_Rat × Bool) (h : ratio_Of a0 = some r) : Fn Try.prog 19 [.agg (c_api_Num a0)] (.tup [.agg (c_ratio_Rat r.1), .bool r.2]) := by
 unfold ratio_Of at h
 refine Fn.ofS hm Try.func19 t19 (Nat.le_of_ble_eq_true rfl) ?_
 refine rs ?_
 refine ro ?_
 refine oc ?_
 refine S.box rfl rfl rfl rfl ?_
 refine oc ?_
 refine S.alloc rfl ?_
 refine oc ?_
 refine S.move rfl ?_
 refine oz ?_
 refine rs ?_
 refine ro ?_
 refine oc ?_
 refine S.faddrP rfl rfl ?_
 refine oc ?_
 refine S.loadP rfl rfl rfl ?_
 obtain ⟨v1, h_v1, h⟩ := bnd_some h
 refine oc ?_
 refine S.call (And.intro rfl rfl) (r42 a0.2.1 _ h_v1) rfl ?_
 refine oc ?_
 refine S.move rfl ?_
 refine oc ?_
 refine S.extract rfl rfl ?_
 refine oc ?_
 refine S.extract rfl rfl ?_
 refine oc ?_
 refine S.alloc rfl ?_
 refine oc ?_
 refine S.storeP rfl rfl rfl rfl rfl rfl (Nat.le_of_ble_eq_true rfl) rfl ?_
 refine oc ?_
 refine S.move rfl ?_
 refine oz ?_
 refine Run.cutJ (J := fun st => ∃ g1 g2 g4 : Nat, Is [(1, .ptr 1 g1 0), (2, .ptr 2 g2 0), (4, .ptr 4 g4 0), (5, .bool v1.2)] [(1, g1, some (.box [.bool a0.1, .str (bs a0.2.1), .str (bs a0.2.2)])), (2, g2, some (.box [.nil, .bool false, .nil])), (4, g4, some (.box [.sl (List.map c_u32 v1.1)]))] st) ⟨_, _, _, ⟨rfl, rfl, rfl, rfl, trivial⟩, ⟨rfl, rfl, rfl, trivial⟩⟩ ?_
 rintro st ⟨g1, g2, g4, hI⟩
 have hI : Is _ _ _ := hI
 revert hI
 refine fun hI => hI.elim ?_
 intro e H
 refine rs ?_
 refine ro ?_
 refine oc ?_
 refine S.faddrP rfl rfl ?_
 refine oc ?_
 refine S.loadP rfl rfl rfl ?_
 obtain ⟨v2, h_v2, h⟩ := bnd_some h
 refine oc ?_
 refine S.call (And.intro rfl rfl) (r42 a0.2.2 _ h_v2) rfl ?_
 refine oc ?_
 refine S.move rfl ?_
 refine oc ?_
 refine S.extract rfl rfl ?_
 refine oc ?_
 refine S.extract rfl rfl ?_
 refine oc ?_
 refine S.alloc rfl ?_
 refine oc ?_
 refine S.storeP rfl rfl rfl rfl rfl rfl (Nat.le_of_ble_eq_true rfl) rfl ?_
 refine oc ?_
 refine S.move rfl ?_
 refine oz ?_
 refine rs ?_
 refine rs ?_
 refine ro ?_
 refine oc ?_
 refine S.move rfl ?_
 refine oc ?_
 refine S.not rfl rfl ?_
 refine oc ?_
 refine S.move rfl ?_
 obtain ⟨x3, hx, h⟩ := lt_some h
 refine OpsR.splitAt 3 (J := fun st => ∃ g1 g2 g4 g6 : Nat, Is [(1, .ptr 1 g1 0), (2, .ptr 2 g2 0), (4, .ptr 4 g4 0), (6, .ptr 6 g6 0), (26, .bool x3)] [(1, g1, some (.box [.bool a0.1, .str (bs a0.2.1), .str (bs a0.2.2)])), (2, g2, some (.box [.nil, .bool false, .nil])), (4, g4, some (.box [.sl (List.map c_u32 v1.1)])), (6, g6, some (.box [.sl (List.map c_u32 v2.1)]))] st) ?_ ?_
 ·replace h := hx
  rcases itep h with ⟨hc, h⟩ | ⟨hc, h⟩
  ·refine OpsR.setB (t := 23) rfl hc ?_
   refine oc ?_
   refine S.off rfl (by decide) ?_
   refine oc ?_
   refine S.off rfl (by decide) ?_
   refine oc ?_
   refine S.pick rfl rfl rfl rfl ?_
   obtain rfl := some_inj h
   refine oz ?_
   exact ⟨_, _, _, _, ⟨rfl, rfl, rfl, rfl, rfl, trivial⟩, ⟨rfl, rfl, rfl, rfl, trivial⟩⟩
  ·refine OpsR.setB (t := 23) rfl hc ?_
   refine oc ?_
   refine S.on rfl ?_
   refine S.move rfl ?_
   refine oc ?_
   refine S.on rfl ?_
   refine S.not rfl rfl ?_
   refine oc ?_
   refine S.pick rfl rfl rfl rfl ?_
   obtain rfl := some_inj h
   refine oz ?_
   exact ⟨_, _, _, _, ⟨rfl, rfl, rfl, rfl, rfl, trivial⟩, ⟨rfl, rfl, rfl, rfl, trivial⟩⟩
 ·rintro st ⟨g1, g2, g4, g6, hI⟩
  have hI : Is _ _ _ := hI
  revert hI
  refine fun hI => hI.elim ?_
  intro e H
  refine oz ?_
  rcases ite_some h with ⟨hc, h⟩ | ⟨hc, h⟩
  ·refine Run.setB (t := 26) rfl hc ?_
   refine Run.condT rfl ?_
   refine rs ?_
   refine ro ?_
   refine oc ?_
   refine S.build (And.intro rfl rfl) rfl ?_
   refine oc ?_
   refine S.storeP rfl rfl rfl rfl rfl rfl (Nat.le_of_ble_eq_true rfl) rfl ?_
   refine oc ?_
   refine S.move rfl ?_
   refine oz ?_
   refine Run.ret ?_
   obtain rfl := some_inj h
   exact FinS.fin (End.all (And.intro rfl rfl))
  ·refine Run.setB (t := 26) rfl hc ?_
   refine Run.condF rfl ?_
   refine Run.skip ?_
   refine rs ?_
   refine Run.drawn ?_
   refine d0 rfl ?_
   refine S.faddrP rfl rfl ?_
   refine d1 (x := (_, _)) rfl rfl ?_
   refine S.loadP rfl rfl rfl ?_
   refine d1 (x := (_, _)) rfl rfl ?_
   refine S.loadP rfl rfl rfl ?_
   obtain ⟨v4, h_v4, h⟩ := bnd_some h
   refine d1 (x := (_, _)) rfl rfl ?_
   refine S.call (And.intro rfl rfl) (r43 a0.1 v1.1 _ h_v4) rfl ?_
   refine d1 (x := (_, _)) rfl rfl ?_
   refine S.loadP rfl rfl rfl ?_
   obtain ⟨v5, h_v5, h⟩ := bnd_some h
   refine d1 (x := (_, _)) rfl rfl ?_
   refine S.call (And.intro rfl rfl) (r43 false v2.1 _ h_v5) rfl ?_
   obtain ⟨v6, h_v6, h⟩ := bnd_some h
   refine d1 (x := (_, _)) rfl rfl ?_
   refine S.call (And.intro rfl rfl) (r30 v4 v5 _ h_v6) rfl ?_
   refine d0 rfl ?_
   refine S.move rfl ?_
   refine d0 rfl ?_
   refine S.extract rfl rfl ?_
   refine d0 rfl ?_
   refine S.extract rfl rfl ?_
   refine d1 (x := (_, _)) rfl rfl ?_
   refine S.alloc rfl ?_
   refine d1 (x := (_, _)) rfl rfl ?_
   refine S.storeP rfl rfl rfl rfl rfl rfl (Nat.le_of_ble_eq_true rfl) rfl ?_
   refine d0 rfl ?_
   refine S.move rfl ?_
   refine DrawR.nil ?_
   refine Run.cutJ (J := fun st => ∃ g1 g2 g8 : Nat, Is [(1, .ptr 1 g1 0), (2, .ptr 2 g2 0), (5, .bool v6.2), (8, .ptr 8 g8 0)] [(1, g1, some (.box [.bool a0.1, .str (bs a0.2.1), .str (bs a0.2.2)])), (2, g2, some (.box [.nil, .bool false, .nil])), (8, g8, some (.box [.sl (List.map c_u32 v6.1.1.1), .bool v6.1.1.2, .sl (List.map c_u32 v6.1.2)]))] st) ⟨_, _, _, ⟨rfl, rfl, rfl, rfl, trivial⟩, ⟨rfl, rfl, rfl, trivial⟩⟩ ?_
   rintro st ⟨g1, g2, g8, hI⟩
   have hI : Is _ _ _ := hI
   revert hI
   refine fun hI => hI.elim ?_
   intro e H
   refine rs ?_
   obtain ⟨x8, hx, h⟩ := bnd_some h
   refine Run.joinG (X := (XOne .normal (fun (x : Bool) (st : St) => ∃ g2 : Nat, Is [(2, .ptr 2 g2 0), (3, .bool x)] [(2, g2, some (.box [.sl (List.map c_u32 v6.1.1.1), .bool v6.1.1.2, .sl (List.map c_u32 v6.1.2)]))] st))) (x := x8) ?_ ?_
   ·replace h := hx
    refine Run.drawn ?_
    refine d1 (x := (_, _)) rfl rfl ?_
    refine S.loadP rfl rfl rfl ?_
    refine d0 rfl ?_
    refine S.move rfl ?_
    refine d0 rfl ?_
    refine S.move rfl ?_
    rcases ite_some h with ⟨hc, h⟩ | ⟨hc, h⟩
    ·refine DrawR.setB (t := 40) rfl hc ?_
     refine d1 (x := (_, _)) rfl rfl ?_
     refine S.on rfl ?_
     refine S.loadP rfl rfl rfl ?_
     obtain ⟨v7, h_v7, h⟩ := bnd_some h
     refine d1 (x := (_, _)) rfl rfl ?_
     refine S.on rfl ?_
     refine S.call (And.intro rfl rfl) (r16 v6.1 _ h_v7) rfl ?_
     refine d1 (x := (_, _)) rfl rfl ?_
     refine S.on rfl ?_
     refine S.loadP rfl rfl rfl ?_
     refine d0 rfl ?_
     refine S.on rfl ?_
     refine S.eqAgg rfl rfl rfl rfl ?_
     refine d0 rfl ?_
     refine S.pick rfl rfl rfl rfl ?_
     refine d1 (x := (_, _)) rfl rfl ?_
     refine S.storeP rfl rfl rfl rfl rfl rfl (Nat.le_of_ble_eq_true rfl) rfl ?_
     refine d0 rfl ?_
     refine S.move rfl ?_
     refine DrawR.nil ?_
     obtain rfl := some_inj h
     refine JP.mk ?_
     exact Leaf.done (XOne.mk ⟨_, ⟨rfl, rfl, trivial⟩, ⟨rfl, trivial⟩⟩)
    ·refine DrawR.setB (t := 40) rfl hc ?_
     refine d0 rfl ?_
     refine S.off rfl (by decide) ?_
     refine d0 rfl ?_
     refine S.off rfl (by decide) ?_
     refine d0 rfl ?_
     refine S.off rfl (by decide) ?_
     refine d0 rfl ?_
     refine S.off rfl (by decide) ?_
     refine d0 rfl ?_
     refine S.pick rfl rfl rfl rfl ?_
     refine d1 (x := (_, _)) rfl rfl ?_
     refine S.storeP rfl rfl rfl rfl rfl rfl (Nat.le_of_ble_eq_true rfl) rfl ?_
     refine d0 rfl ?_
     refine S.move rfl ?_
     refine DrawR.nil ?_
     obtain rfl := some_inj h
     refine JP.mk ?_
     exact Leaf.done (XOne.mk ⟨_, ⟨rfl, rfl, trivial⟩, ⟨rfl, trivial⟩⟩)
   ·intro e0 st0 hX
    rcases hX with ⟨hX⟩
    obtain ⟨g2, hI⟩ := hX
    revert hI
    refine fun hI => hI.elim ?_
    intro e H
    refine Run.ret ?_
    obtain rfl := some_inj h
    exact FinS.fin (End.all (And.intro rfl rfl))

theorem r9 (a0 : T_api_Num) (r : T_ratio_Rat × Bool) (h : law13_read a0 = some r) : Fn Try.prog 9 [.agg (c_api_Num a0)] (.tup [.agg (c_ratio_Rat r.1), .bool r.2]) := by
 unfold law13_read at h
 refine Fn.ofS hm Try.func9 t9 (Nat.le_of_ble_eq_true rfl) ?_
 refine rs ?_
 refine ro ?_
 refine oc ?_
 refine S.box rfl rfl rfl rfl ?_
 refine oc ?_
 refine S.alloc rfl ?_
 refine oc ?_
 refine S.move rfl ?_
 refine oz ?_
 refine rs ?_
 refine rs ?_
 refine ro ?_
 refine oc ?_
 refine S.faddrP rfl rfl ?_
 refine oc ?_
 refine S.loadP rfl rfl rfl ?_
 refine oc ?_
 refine S.lenSM rfl ?_
 refine oc ?_
 refine S.gtr rfl rfl rfl ?_
 refine oc ?_
 refine S.move rfl ?_
 obtain ⟨x1, hx, h⟩ := lt_some h
 refine OpsR.splitAt 5 (J := fun st => ∃ g1 g2 : Nat, Is [(1, .ptr 1 g1 0), (2, .ptr 2 g2 0), (13, .bool x1)] [(1, g1, some (.box [.bool a0.1, .str (bs a0.2.1), .str (bs a0.2.2)])), (2, g2, some (.box [.nil, .bool false, .nil]))] st) ?_ ?_
 ·replace h := hx
  rcases itep h with ⟨hc, h⟩ | ⟨hc, h⟩
  ·refine OpsR.setB (t := 8) rfl hc ?_
   refine oc ?_
   refine S.off rfl (by decide) ?_
   refine oc ?_
   refine S.off rfl (by decide) ?_
   refine oc ?_
   refine S.off rfl (by decide) ?_
   refine oc ?_
   refine S.off rfl (by decide) ?_
   refine oc ?_
   refine S.pick rfl rfl rfl rfl ?_
   obtain rfl := some_inj h
   refine oz ?_
   exact ⟨_, _, ⟨rfl, rfl, rfl, trivial⟩, ⟨rfl, rfl, trivial⟩⟩
  ·refine OpsR.setB (t := 8) rfl hc ?_
   refine oc ?_
   refine S.on rfl ?_
   refine S.faddrP rfl rfl ?_
   refine oc ?_
   refine S.on rfl ?_
   refine S.loadP rfl rfl rfl ?_
   refine oc ?_
   refine S.on rfl ?_
   refine S.lenSM rfl ?_
   refine oc ?_
   refine S.on rfl ?_
   refine S.gtr rfl rfl rfl ?_
   refine oc ?_
   refine S.pick rfl rfl rfl rfl ?_
   obtain rfl := some_inj h
   refine oz ?_
   exact ⟨_, _, ⟨rfl, rfl, rfl, trivial⟩, ⟨rfl, rfl, trivial⟩⟩
 ·rintro st ⟨g1, g2, hI⟩
  have hI : Is _ _ _ := hI
  revert hI
  refine fun hI => hI.elim ?_
  intro e H
  refine oc ?_
  refine S.move rfl ?_
  obtain ⟨x3, hx, h⟩ := bnd_some h
  refine OpsR.splitAt 4 (J := fun st => ∃ g1 g2 : Nat, Is [(1, .ptr 1 g1 0), (2, .ptr 2 g2 0), (18, .bool x3)] [(1, g1, some (.box [.bool a0.1, .str (bs a0.2.1), .str (bs a0.2.2)])), (2, g2, some (.box [.nil, .bool false, .nil]))] st) ?_ ?_
  ·replace h := hx
   rcases ite_some h with ⟨hc, h⟩ | ⟨hc, h⟩
   ·refine OpsR.setB (t := 14) rfl hc ?_
    refine oc ?_
    refine S.off rfl (by decide) ?_
    refine oc ?_
    refine S.off rfl (by decide) ?_
    refine oc ?_
    refine S.off rfl (by decide) ?_
    refine oc ?_
    refine S.pick rfl rfl rfl rfl ?_
    obtain rfl := some_inj h
    refine oz ?_
    exact ⟨_, _, ⟨rfl, rfl, rfl, trivial⟩, ⟨rfl, rfl, trivial⟩⟩
   ·refine OpsR.setB (t := 14) rfl hc ?_
    refine oc ?_
    refine S.on rfl ?_
    refine S.loadP rfl rfl rfl ?_
    obtain ⟨v2, h_v2, h⟩ := bnd_some h
    refine oc ?_
    refine S.on rfl ?_
    refine S.call (And.intro rfl rfl) (r18 a0 _ h_v2) rfl ?_
    refine oc ?_
    refine S.on rfl ?_
    refine S.not rfl rfl ?_
    refine oc ?_
    refine S.pick rfl rfl rfl rfl ?_
    obtain rfl := some_inj h
    refine oz ?_
    exact ⟨_, _, ⟨rfl, rfl, rfl, trivial⟩, ⟨rfl, rfl, trivial⟩⟩
  ·rintro st ⟨g1, g2, hI⟩
   have hI : Is _ _ _ := hI
   revert hI
   refine fun hI => hI.elim ?_
   intro e H
   refine oz ?_
   rcases ite_some h with ⟨hc, h⟩ | ⟨hc, h⟩
   ·refine Run.setB (t := 18) rfl hc ?_
    refine Run.condT rfl ?_
    refine rs ?_
    refine ro ?_
    refine oc ?_
    refine S.build (And.intro rfl rfl) rfl ?_
    refine oc ?_
    refine S.storeP rfl rfl rfl rfl rfl rfl (Nat.le_of_ble_eq_true rfl) rfl ?_
    refine oc ?_
    refine S.move rfl ?_
    refine oz ?_
    refine Run.ret ?_
    obtain rfl := some_inj h
    exact FinS.fin (End.all (And.intro rfl rfl))
   ·refine Run.setB (t := 18) rfl hc ?_
    refine Run.condF rfl ?_
    refine Run.skip ?_
    refine rs ?_
    refine ro ?_
    refine oc ?_
    refine S.loadP rfl rfl rfl ?_
    obtain ⟨v4, h_v4, h⟩ := bnd_some h
    refine oc ?_
    refine S.call (And.intro rfl rfl) (r19 a0 _ h_v4) rfl ?_
    refine oc ?_
    refine S.extract rfl rfl ?_
    refine oc ?_
    refine S.extract rfl rfl ?_
    refine oc ?_
    refine S.storeP rfl rfl rfl rfl rfl rfl (Nat.le_of_ble_eq_true rfl) rfl ?_
    refine oc ?_
    refine S.move rfl ?_
    refine oz ?_
    refine Run.ret ?_
    obtain rfl := some_inj h
    exact FinS.fin (End.all (And.intro rfl rfl))

theorem r6 (a0 : Int) (a1 : Int) (r : Bool) (h : dyad_Compare a0 a1 = some r) : Fn Try.prog 6 [.int .i32 a0, .int .i64 a1] (.bool r) := by
 unfold dyad_Compare at h
 refine Fn.ofS hm Try.func6 t6 (Nat.le_of_ble_eq_true rfl) ?_
 refine rs ?_
 refine ro ?_
 refine oc ?_
 refine S.move rfl ?_
 refine oz ?_
 refine rs ?_
 refine rs ?_
 refine ro ?_
 refine oc ?_
 refine S.move rfl ?_
 refine oz ?_
 refine Run.block ?_
 refine rs ?_
 refine ro ?_
 refine oc ?_
 refine S.eql rfl rfl rfl ?_
 refine oc ?_
 refine S.move rfl ?_
 refine oz ?_
 rcases ite_some h with ⟨hc, h⟩ | ⟨hc, h⟩
 ·refine Run.setB (t := 6) rfl hc ?_
  refine Run.condT rfl ?_
  refine rs ?_
  refine ro ?_
  refine oc ?_
  refine S.move rfl ?_
  refine oc ?_
  refine S.lss rfl rfl rfl ?_
  refine oc ?_
  refine S.move rfl ?_
  refine oz ?_
  refine Run.ret ?_
  obtain rfl := some_inj h
  exact FinS.fin (End.tmp rfl rfl rfl)
 ·refine Run.setB (t := 6) rfl hc ?_
  refine Run.condF rfl ?_
  refine rs ?_
  refine ro ?_
  refine oc ?_
  refine S.eql rfl rfl rfl ?_
  refine oc ?_
  refine S.move rfl ?_
  refine oz ?_
  rcases ite_some h with ⟨hc, h⟩ | ⟨hc, h⟩
  ·refine Run.setB (t := 10) rfl hc ?_
   refine Run.condT rfl ?_
   refine rs ?_
   refine ro ?_
   refine oc ?_
   refine S.move rfl ?_
   refine oc ?_
   refine S.leq rfl rfl rfl ?_
   refine oc ?_
   refine S.move rfl ?_
   refine oz ?_
   refine Run.ret ?_
   obtain rfl := some_inj h
   exact FinS.fin (End.tmp rfl rfl rfl)
  ·refine Run.setB (t := 10) rfl hc ?_
   refine Run.condF rfl ?_
   refine rs ?_
   refine ro ?_
   refine oc ?_
   refine S.eql rfl rfl rfl ?_
   refine oc ?_
   refine S.move rfl ?_
   refine oz ?_
   rcases ite_some h with ⟨hc, h⟩ | ⟨hc, h⟩
   ·refine Run.setB (t := 14) rfl hc ?_
    refine Run.condT rfl ?_
    refine rs ?_
    refine ro ?_
    refine oc ?_
    refine S.move rfl ?_
    refine oc ?_
    refine S.eql rfl rfl rfl ?_
    refine oc ?_
    refine S.move rfl ?_
    refine oz ?_
    refine Run.cutJ (J := fun st => Is [(4, .bool (decide (a1 = 0)))] [] st) ⟨⟨rfl, trivial⟩, trivial⟩ ?_
    rintro st hI
    have hI : Is _ _ _ := hI
    revert hI
    refine fun hI => hI.elim ?_
    intro e H
    refine Run.ret ?_
    obtain rfl := some_inj h
    exact FinS.fin (End.tmp rfl rfl rfl)
   ·refine Run.setB (t := 14) rfl hc ?_
    refine Run.condF rfl ?_
    refine rs ?_
    refine ro ?_
    refine oc ?_
    refine S.eql rfl rfl rfl ?_
    refine oc ?_
    refine S.move rfl ?_
    refine oz ?_
    refine Run.cutJ (J := fun st => Is [(1, .int .i64 a1), (5, .int .i32 a0), (18, .bool (decide (a0 = 8805)))] [] st) ⟨⟨rfl, rfl, rfl, trivial⟩, trivial⟩ ?_
    rintro st hI
    have hI : Is _ _ _ := hI
    revert hI
    refine fun hI => hI.elim ?_
    intro e H
    rcases ite_some h with ⟨hc, h⟩ | ⟨hc, h⟩
    ·refine Run.setB (t := 18) rfl hc ?_
     refine Run.condT rfl ?_
     refine rs ?_
     refine ro ?_
     refine oc ?_
     refine S.move rfl ?_
     refine oc ?_
     refine S.geq rfl rfl rfl ?_
     refine oc ?_
     refine S.move rfl ?_
     refine oz ?_
     refine Run.ret ?_
     obtain rfl := some_inj h
     exact FinS.fin (End.tmp rfl rfl rfl)
    ·refine Run.setB (t := 18) rfl hc ?_
     refine Run.condF rfl ?_
     refine rs ?_
     refine ro ?_
     refine oc ?_
     refine S.eql rfl rfl rfl ?_
     refine oc ?_
     refine S.move rfl ?_
     refine oz ?_
     rcases ite_some h with ⟨hc, h⟩ | ⟨hc, h⟩
     ·refine Run.setB (t := 22) rfl hc ?_
      refine Run.condT rfl ?_
      refine rs ?_
      refine ro ?_
      refine oc ?_
      refine S.move rfl ?_
      refine oc ?_
      refine S.gtr rfl rfl rfl ?_
      refine oc ?_
      refine S.move rfl ?_
      refine oz ?_
      refine Run.ret ?_
      obtain rfl := some_inj h
      exact FinS.fin (End.tmp rfl rfl rfl)
     ·refine Run.setB (t := 22) rfl hc ?_
      refine Run.condF rfl ?_
      refine Run.skip ?_
      refine rs ?_
      refine ro ?_
      refine oc ?_
      refine S.move rfl ?_
      refine oc ?_
      refine S.neq rfl rfl rfl ?_
      refine oc ?_
      refine S.move rfl ?_
      refine oz ?_
      refine Run.ret ?_
      obtain rfl := some_inj h
      exact FinS.fin (End.tmp rfl rfl rfl)

theorem r27 (a0 : T_whole_Int) (a1 : List T_whole_Int) (r : T_whole_Int) (h : whole_Int_Times a0 a1 = some r) : Fn Try.prog 27 [.agg (c_whole_Int a0), .sl (List.map c_whole_Int a1)] (.agg (c_whole_Int r)) := by
 unfold whole_Int_Times at h
 refine Fn.ofS hm Try.func27 t27 (Nat.le_of_ble_eq_true rfl) ?_
 refine rs ?_
 refine ro ?_
 refine oc ?_
 refine S.box rfl rfl rfl rfl ?_
 refine oc ?_
 refine S.alloc rfl ?_
 refine oz ?_
 refine rs ?_
 refine rs ?_
 refine ro ?_
 refine oc ?_
 refine S.move rfl ?_
 refine oc ?_
 refine S.lenLM rfl ?_
 refine oc ?_
 refine S.move rfl ?_
 refine oz ?_
 refine Run.block ?_
 obtain ⟨x5, hx, h⟩ := bnd_some h
 refine Run.iter (I := (fun (s : Int × List Int × Bool) (st : St) => ∃ g2 g4 : Nat, Is [(2, .ptr 2 g2 0), (4, .ptr 4 g4 0), (7, .sl (List.map c_whole_Int a1)), (8, .int .i64 (a1.length : Int)), (9, .int .i64 s.1)] [(2, g2, some (.box [.sl (List.map c_u32 s.2.1), .bool s.2.2])), (4, g4, some (.box [.nil, .bool false]))] st)) (X := (XOne (.exit 0) (fun (x : List Int × Bool) (st : St) => ∃ g2 g4 : Nat, Is [(2, .ptr 2 g2 0), (4, .ptr 4 g4 0)] [(2, g2, some (.box [.sl (List.map c_u32 x.1), .bool x.2])), (4, g4, some (.box [.nil, .bool false]))] st))) hx ?_ ?_ ?_
 ·exact ⟨_, _, ⟨rfl, rfl, rfl, rfl, rfl, trivial⟩, ⟨rfl, rfl, trivial⟩⟩
 ·rintro s1 st ⟨g2, g4, hI⟩ o h
  have hI : Is _ _ _ := hI
  revert hI
  refine fun hI => hI.elim ?_
  intro e H
  refine rs ?_
  refine ro ?_
  refine oc ?_
  refine S.lss rfl rfl rfl ?_
  refine oz ?_
  refine rs ?_
  rcases ite_some h with ⟨hc, h⟩ | ⟨hc, h⟩
  ·refine Run.setB (t := 10) rfl hc ?_
   refine Run.condT rfl ?_
   refine Run.skip ?_
   refine rs ?_
   refine Run.block ?_
   refine rs ?_
   refine ro ?_
   obtain ⟨v2, h_v2, h⟩ := bnd_some h
   refine oc ?_
   refine S.iaddrLM (c := c_whole_Int) rfl rfl h_v2 (fun _ => rfl) ?_
   refine oc ?_
   refine S.loadC rfl rfl ?_
   refine oc ?_
   refine S.alloc rfl ?_
   refine oc ?_
   refine S.storeP rfl rfl rfl rfl rfl rfl (Nat.le_of_ble_eq_true rfl) rfl ?_
   refine oz ?_
   refine Run.drawn ?_
   refine d0 rfl ?_
   refine S.faddrP rfl rfl ?_
   refine d1 (x := (_, _)) rfl rfl ?_
   refine S.loadP rfl rfl rfl ?_
   refine d0 rfl ?_
   refine S.faddrP rfl rfl ?_
   refine d1 (x := (_, _)) rfl rfl ?_
   refine S.loadP rfl rfl rfl ?_
   refine d0 rfl ?_
   refine S.binB rfl rfl rfl ?_
   refine d0 rfl ?_
   refine S.faddrP rfl rfl ?_
   refine d1 (x := (_, _)) rfl rfl ?_
   refine S.loadP rfl rfl rfl ?_
   refine d0 rfl ?_
   refine S.faddrP rfl rfl ?_
   refine d1 (x := (_, _)) rfl rfl ?_
   refine S.loadP rfl rfl rfl ?_
   obtain ⟨v3, h_v3, h⟩ := bnd_some h
   refine d1 (x := (_, _)) rfl rfl ?_
   refine S.call (And.intro rfl rfl) (r51 s1.2.1 v2.1 _ h_v3) rfl ?_
   obtain ⟨v4, h_v4, h⟩ := bnd_some h
   refine d1 (x := (_, _)) rfl rfl ?_
   refine S.call (And.intro rfl rfl) (r43 (!(s1.2.2 == v2.2)) v3 _ h_v4) rfl ?_
   refine d1 (x := (_, _)) rfl rfl ?_
   refine S.storeP rfl rfl rfl rfl rfl rfl (Nat.le_of_ble_eq_true rfl) rfl ?_
   refine DrawR.nil ?_
   refine Run.cutJ (J := fun st => ∃ g2 g4 : Nat, Is [(2, .ptr 2 g2 0), (4, .ptr 4 g4 0), (7, .sl (List.map c_whole_Int a1)), (8, .int .i64 (a1.length : Int)), (9, .int .i64 s1.1)] [(2, g2, some (.box [.sl (List.map c_u32 v4.1), .bool v4.2])), (4, g4, some (.box [.nil, .bool false]))] st) ⟨_, _, ⟨rfl, rfl, rfl, rfl, rfl, trivial⟩, ⟨rfl, rfl, trivial⟩⟩ ?_
   rintro st ⟨g2, g4, hI⟩
   have hI : Is _ _ _ := hI
   revert hI
   refine fun hI => hI.elim ?_
   intro e H
   refine ro ?_
   refine oc ?_
   refine S.add rfl rfl rfl ?_
   refine oc ?_
   refine S.move rfl ?_
   refine oz ?_
   obtain rfl := some_inj h
   refine LoopPost.next ?_
   exact Leaf.done ⟨_, _, ⟨rfl, rfl, rfl, rfl, rfl, trivial⟩, ⟨rfl, rfl, trivial⟩⟩
  ·refine Run.setB (t := 10) rfl hc ?_
   refine Run.condF rfl ?_
   refine Run.exit ?_
   obtain rfl := some_inj h
   refine LoopPost.out nofun ?_
   exact Leaf.done (XOne.mk ⟨_, _, ⟨rfl, rfl, trivial⟩, ⟨rfl, rfl, trivial⟩⟩)
 ·intro e0 st0 hX
  rcases hX with ⟨hX⟩
  obtain ⟨g2, g4, hI⟩ := hX
  revert hI
  refine fun hI => hI.elim ?_
  intro e H
  refine rs ?_
  refine ro ?_
  refine oc ?_
  refine S.loadP rfl rfl rfl ?_
  refine oc ?_
  refine S.storeP rfl rfl rfl rfl rfl rfl (Nat.le_of_ble_eq_true rfl) rfl ?_
  refine oz ?_
  refine Run.ret ?_
  obtain rfl := some_inj h
  exact FinS.fin (End.cell rfl rfl rfl rfl rfl)

theorem r28 (a0 : T_ratio_Rat) (r : T_whole_Int) (h : ratio_Rat_under a0 = some r) : Fn Try.prog 28 [.agg (c_ratio_Rat a0)] (.agg (c_whole_Int r)) := by
 unfold ratio_Rat_under at h
 refine Fn.ofS hm Try.func28 t28 (Nat.le_of_ble_eq_true rfl) ?_
 refine rs ?_
 refine ro ?_
 refine oc ?_
 refine S.box rfl rfl rfl rfl ?_
 refine oc ?_
 refine S.alloc rfl ?_
 refine oz ?_
 refine rs ?_
 refine ro ?_
 refine oc ?_
 refine S.loadP rfl rfl rfl ?_
 obtain ⟨v1, h_v1, h⟩ := bnd_some h
 refine oc ?_
 refine S.call (And.intro rfl rfl) (r37 a0 _ h_v1) rfl ?_
 obtain ⟨v2, h_v2, h⟩ := bnd_some h
 refine oc ?_
 refine S.call (And.intro rfl rfl) (r43 false v1 _ h_v2) rfl ?_
 refine oc ?_
 refine S.storeP rfl rfl rfl rfl rfl rfl (Nat.le_of_ble_eq_true rfl) rfl ?_
 refine oz ?_
 refine Run.ret ?_
 obtain rfl := some_inj h
 exact FinS.fin (End.cell rfl rfl rfl rfl rfl)

theorem r29 (a0 : T_whole_Int) (a1 : T_whole_Int) (r : Int) (h : whole_Int_Cmp a0 a1 = some r) : Fn Try.prog 29 [.agg (c_whole_Int a0), .agg (c_whole_Int a1)] (.int .i64 r) := by
 unfold whole_Int_Cmp at h
 refine Fn.ofS hm Try.func29 t29 (Nat.le_of_ble_eq_true rfl) ?_
 refine rs ?_
 refine ro ?_
 refine oc ?_
 refine S.box rfl rfl rfl rfl ?_
 refine oc ?_
 refine S.box rfl rfl rfl rfl ?_
 refine oc ?_
 refine S.move rfl ?_
 refine oz ?_
 refine rs ?_
 refine Run.block ?_
 refine rs ?_
 refine ro ?_
 refine oc ?_
 refine S.faddrP rfl rfl ?_
 refine oc ?_
 refine S.loadP rfl rfl rfl ?_
 refine oc ?_
 refine S.move rfl ?_
 obtain ⟨x1, hx, h⟩ := lt_some h
 refine OpsR.splitAt 4 (J := fun st => ∃ g2 g3 : Nat, Is [(2, .ptr 2 g2 0), (3, .ptr 3 g3 0), (12, .bool x1)] [(2, g2, some (.box [.sl (List.map c_u32 a0.1), .bool a0.2])), (3, g3, some (.box [.sl (List.map c_u32 a1.1), .bool a1.2]))] st) ?_ ?_
 ·replace h := hx
  rcases itep h with ⟨hc, h⟩ | ⟨hc, h⟩
  ·refine OpsR.setB (t := 8) rfl hc ?_
   refine oc ?_
   refine S.on rfl ?_
   refine S.faddrP rfl rfl ?_
   refine oc ?_
   refine S.on rfl ?_
   refine S.loadP rfl rfl rfl ?_
   refine oc ?_
   refine S.on rfl ?_
   refine S.not rfl rfl ?_
   refine oc ?_
   refine S.pick rfl rfl rfl rfl ?_
   obtain rfl := some_inj h
   refine oz ?_
   exact ⟨_, _, ⟨rfl, rfl, rfl, trivial⟩, ⟨rfl, rfl, trivial⟩⟩
  ·refine OpsR.setB (t := 8) rfl hc ?_
   refine oc ?_
   refine S.off rfl (by decide) ?_
   refine oc ?_
   refine S.off rfl (by decide) ?_
   refine oc ?_
   refine S.off rfl (by decide) ?_
   refine oc ?_
   refine S.pick rfl rfl rfl rfl ?_
   obtain rfl := some_inj h
   refine oz ?_
   exact ⟨_, _, ⟨rfl, rfl, rfl, trivial⟩, ⟨rfl, rfl, trivial⟩⟩
 ·rintro st ⟨g2, g3, hI⟩
  have hI : Is _ _ _ := hI
  revert hI
  refine fun hI => hI.elim ?_
  intro e H
  refine oc ?_
  refine S.move rfl ?_
  refine oz ?_
  rcases ite_some h with ⟨hc, h⟩ | ⟨hc, h⟩
  ·refine Run.setB (t := 5) rfl hc ?_
   refine Run.condT rfl ?_
   refine rs ?_
   refine ro ?_
   refine oc ?_
   refine S.move rfl ?_
   refine oz ?_
   refine Run.ret ?_
   obtain rfl := some_inj h
   exact FinS.fin (End.tmp rfl rfl rfl)
  ·refine Run.setB (t := 5) rfl hc ?_
   refine Run.condF rfl ?_
   refine rs ?_
   refine ro ?_
   refine oc ?_
   refine S.faddrP rfl rfl ?_
   refine oc ?_
   refine S.loadP rfl rfl rfl ?_
   refine oc ?_
   refine S.not rfl rfl ?_
   refine oc ?_
   refine S.move rfl ?_
   obtain ⟨x2, hx, h⟩ := lt_some h
   refine OpsR.splitAt 3 (J := fun st => ∃ g2 g3 : Nat, Is [(2, .ptr 2 g2 0), (3, .ptr 3 g3 0), (20, .bool x2)] [(2, g2, some (.box [.sl (List.map c_u32 a0.1), .bool a0.2])), (3, g3, some (.box [.sl (List.map c_u32 a1.1), .bool a1.2]))] st) ?_ ?_
   ·replace h := hx
    rcases itep h with ⟨hc, h⟩ | ⟨hc, h⟩
    ·refine OpsR.setB (t := 17) rfl hc ?_
     refine oc ?_
     refine S.on rfl ?_
     refine S.faddrP rfl rfl ?_
     refine oc ?_
     refine S.on rfl ?_
     refine S.loadP rfl rfl rfl ?_
     refine oc ?_
     refine S.pick rfl rfl rfl rfl ?_
     obtain rfl := some_inj h
     refine oz ?_
     exact ⟨_, _, ⟨rfl, rfl, rfl, trivial⟩, ⟨rfl, rfl, trivial⟩⟩
    ·refine OpsR.setB (t := 17) rfl hc ?_
     refine oc ?_
     refine S.off rfl (by decide) ?_
     refine oc ?_
     refine S.off rfl (by decide) ?_
     refine oc ?_
     refine S.pick rfl rfl rfl rfl ?_
     obtain rfl := some_inj h
     refine oz ?_
     exact ⟨_, _, ⟨rfl, rfl, rfl, trivial⟩, ⟨rfl, rfl, trivial⟩⟩
   ·rintro st ⟨g2, g3, hI⟩
    have hI : Is _ _ _ := hI
    revert hI
    refine fun hI => hI.elim ?_
    intro e H
    refine oc ?_
    refine S.move rfl ?_
    refine oz ?_
    rcases ite_some h with ⟨hc, h⟩ | ⟨hc, h⟩
    ·refine Run.setB (t := 13) rfl hc ?_
     refine Run.condT rfl ?_
     refine rs ?_
     refine ro ?_
     refine oc ?_
     refine S.move rfl ?_
     refine oz ?_
     refine Run.ret ?_
     obtain rfl := some_inj h
     exact FinS.fin (End.tmp rfl rfl rfl)
    ·refine Run.setB (t := 13) rfl hc ?_
     refine Run.condF rfl ?_
     refine rs ?_
     refine ro ?_
     refine oc ?_
     refine S.faddrP rfl rfl ?_
     refine oc ?_
     refine S.loadP rfl rfl rfl ?_
     refine oc ?_
     refine S.move rfl ?_
     refine oz ?_
     rcases ite_some h with ⟨hc, h⟩ | ⟨hc, h⟩
     ·refine Run.setB (t := 21) rfl hc ?_
      refine Run.condT rfl ?_
      refine rs ?_
      refine ro ?_
      refine oc ?_
      refine S.faddrP rfl rfl ?_
      refine oc ?_
      refine S.loadP rfl rfl rfl ?_
      refine oc ?_
      refine S.faddrP rfl rfl ?_
      refine oc ?_
      refine S.loadP rfl rfl rfl ?_
      obtain ⟨v3, h_v3, h⟩ := bnd_some h
      refine oc ?_
      refine S.call (And.intro rfl rfl) (r52 a1.1 a0.1 _ h_v3) rfl ?_
      refine oc ?_
      refine S.move rfl ?_
      refine oz ?_
      refine Run.ret ?_
      obtain rfl := some_inj h
      exact FinS.fin (End.tmp rfl rfl rfl)
     ·refine Run.setB (t := 21) rfl hc ?_
      refine Run.condF rfl ?_
      refine Run.skip ?_
      refine rs ?_
      refine ro ?_
      refine oc ?_
      refine S.faddrP rfl rfl ?_
      refine oc ?_
      refine S.loadP rfl rfl rfl ?_
      refine oc ?_
      refine S.faddrP rfl rfl ?_
      refine oc ?_
      refine S.loadP rfl rfl rfl ?_
      obtain ⟨v4, h_v4, h⟩ := bnd_some h
      refine oc ?_
      refine S.call (And.intro rfl rfl) (r52 a0.1 a1.1 _ h_v4) rfl ?_
      refine oc ?_
      refine S.move rfl ?_
      refine oz ?_
      refine Run.ret ?_
      obtain rfl := some_inj h
      exact FinS.fin (End.tmp rfl rfl rfl)

theorem r11 (a0 : T_ratio_Rat) (a1 : T_ratio_Rat) (r : Int) (h : ratio_Rat_Cmp a0 a1 = some r) : Fn Try.prog 11 [.agg (c_ratio_Rat a0), .agg (c_ratio_Rat a1)] (.int .i64 r) := by
 unfold ratio_Rat_Cmp at h
 refine Fn.ofS hm Try.func11 t11 (Nat.le_of_ble_eq_true rfl) ?_
 refine rs ?_
 refine ro ?_
 refine oc ?_
 refine S.box rfl rfl rfl rfl ?_
 refine oc ?_
 refine S.box rfl rfl rfl rfl ?_
 refine oc ?_
 refine S.move rfl ?_
 refine oz ?_
 refine rs ?_
 refine Run.drawn ?_
 refine d0 rfl ?_
 refine S.faddrP rfl rfl ?_
 refine d1 (x := (_, _)) rfl rfl ?_
 refine S.loadP rfl rfl rfl ?_
 refine d1 (x := (_, _)) rfl rfl ?_
 refine S.loadP rfl rfl rfl ?_
 obtain ⟨v1, h_v1, h⟩ := bnd_some h
 refine d1 (x := (_, _)) rfl rfl ?_
 refine S.call (And.intro rfl rfl) (r28 a1 _ h_v1) rfl ?_
 refine d1 (x := (_, _)) rfl rfl ?_
 refine S.buildSlM (c := c_whole_Int) (l := ([v1] : List T_whole_Int)) (And.intro rfl rfl) rfl rfl rfl ?_
 obtain ⟨v2, h_v2, h⟩ := bnd_some h
 refine d2 (x := (_, _)) (y := (_, _)) rfl rfl ?_
 refine S.call (And.intro rfl (And.intro rfl (And.intro rfl (And.intro rfl rfl)))) (r27 a0.1 ([v1] : List T_whole_Int) _ h_v2) rfl ?_
 refine d0 rfl ?_
 refine S.faddrP rfl rfl ?_
 refine d1 (x := (_, _)) rfl rfl ?_
 refine S.loadP rfl rfl rfl ?_
 refine d1 (x := (_, _)) rfl rfl ?_
 refine S.loadP rfl rfl rfl ?_
 obtain ⟨v3, h_v3, h⟩ := bnd_some h
 refine d1 (x := (_, _)) rfl rfl ?_
 refine S.call (And.intro rfl rfl) (r28 a0 _ h_v3) rfl ?_
 refine d1 (x := (_, _)) rfl rfl ?_
 refine S.buildSlM (c := c_whole_Int) (l := ([v3] : List T_whole_Int)) (And.intro rfl rfl) rfl rfl rfl ?_
 obtain ⟨v4, h_v4, h⟩ := bnd_some h
 refine d2 (x := (_, _)) (y := (_, _)) rfl rfl ?_
 refine S.call (And.intro rfl (And.intro rfl (And.intro rfl (And.intro rfl rfl)))) (r27 a1.1 ([v3] : List T_whole_Int) _ h_v4) rfl ?_
 obtain ⟨v5, h_v5, h⟩ := bnd_some h
 refine d1 (x := (_, _)) rfl rfl ?_
 refine S.call (And.intro rfl rfl) (r29 v2 v4 _ h_v5) rfl ?_
 refine d0 rfl ?_
 refine S.move rfl ?_
 refine DrawR.nil ?_
 refine Run.cutJ (J := fun st => Is [(4, .int .i64 v5)] [] st) ⟨⟨rfl, trivial⟩, trivial⟩ ?_
 rintro st hI
 have hI : Is _ _ _ := hI
 revert hI
 refine fun hI => hI.elim ?_
 intro e H
 refine Run.ret ?_
 obtain rfl := some_inj h
 exact FinS.fin (End.tmp rfl rfl rfl)

theorem r20 (a0 : Int) (r : Bool) (h : dyad_compares a0 = some r) : Fn Try.prog 20 [.int .i32 a0] (.bool r) := by
 unfold dyad_compares at h
 refine Fn.ofS hm Try.func20 t20 (Nat.le_of_ble_eq_true rfl) ?_
 refine rs ?_
 refine ro ?_
 refine oc ?_
 refine S.move rfl ?_
 refine oz ?_
 refine rs ?_
 refine rs ?_
 refine ro ?_
 refine oc ?_
 refine S.move rfl ?_
 refine oz ?_
 refine Run.block ?_
 refine rs ?_
 obtain ⟨x1, hx, h⟩ := lt_some h
 refine Run.joinG (X := (XOne .normal (fun (x : Bool) (st : St) => Is [(4, .bool x)] [] st))) (x := x1) ?_ ?_
 ·replace h := hx
  refine rs ?_
  refine ro ?_
  refine oc ?_
  refine S.eql rfl rfl rfl ?_
  refine oc ?_
  refine S.move rfl ?_
  refine oz ?_
  rcases itep h with ⟨hc, h⟩ | ⟨hc, h⟩
  ·refine Run.setB (t := 4) rfl hc ?_
   refine Run.condT rfl ?_
   refine Run.skip ?_
   obtain rfl := some_inj h
   refine JP.mk ?_
   exact Leaf.done (XOne.mk ⟨⟨rfl, trivial⟩, trivial⟩)
  ·refine Run.setB (t := 4) rfl hc ?_
   refine Run.condF rfl ?_
   refine rs ?_
   refine ro ?_
   refine oc ?_
   refine S.eql rfl rfl rfl ?_
   refine oc ?_
   refine S.move rfl ?_
   refine oz ?_
   rcases itep h with ⟨hc, h⟩ | ⟨hc, h⟩
   ·refine Run.setB (t := 4) rfl hc ?_
    refine Run.condT rfl ?_
    refine Run.skip ?_
    obtain rfl := some_inj h
    refine JP.mk ?_
    exact Leaf.done (XOne.mk ⟨⟨rfl, trivial⟩, trivial⟩)
   ·refine Run.setB (t := 4) rfl hc ?_
    refine Run.condF rfl ?_
    refine rs ?_
    refine ro ?_
    refine oc ?_
    refine S.eql rfl rfl rfl ?_
    refine oc ?_
    refine S.move rfl ?_
    refine oz ?_
    rcases itep h with ⟨hc, h⟩ | ⟨hc, h⟩
    ·refine Run.setB (t := 4) rfl hc ?_
     refine Run.condT rfl ?_
     refine Run.skip ?_
     obtain rfl := some_inj h
     refine JP.mk ?_
     exact Leaf.done (XOne.mk ⟨⟨rfl, trivial⟩, trivial⟩)
    ·refine Run.setB (t := 4) rfl hc ?_
     refine Run.condF rfl ?_
     refine rs ?_
     refine ro ?_
     refine oc ?_
     refine S.eql rfl rfl rfl ?_
     refine oc ?_
     refine S.move rfl ?_
     refine oz ?_
     refine Run.cutJ (J := fun st => Is [(3, .int .i32 a0), (4, .bool (decide (a0 = 8805)))] [] st) ⟨⟨rfl, rfl, trivial⟩, trivial⟩ ?_
     rintro st hI
     have hI : Is _ _ _ := hI
     revert hI
     refine fun hI => hI.elim ?_
     intro e H
     rcases itep h with ⟨hc, h⟩ | ⟨hc, h⟩
     ·refine Run.setB (t := 4) rfl hc ?_
      refine Run.condT rfl ?_
      refine Run.skip ?_
      obtain rfl := some_inj h
      refine JP.mk ?_
      exact Leaf.done (XOne.mk ⟨⟨rfl, trivial⟩, trivial⟩)
     ·refine Run.setB (t := 4) rfl hc ?_
      refine Run.condF rfl ?_
      refine rs ?_
      refine ro ?_
      refine oc ?_
      refine S.eql rfl rfl rfl ?_
      refine oc ?_
      refine S.move rfl ?_
      refine oz ?_
      rcases itep h with ⟨hc, h⟩ | ⟨hc, h⟩
      ·refine Run.setB (t := 4) rfl hc ?_
       refine Run.condT rfl ?_
       refine Run.skip ?_
       obtain rfl := some_inj h
       refine JP.mk ?_
       exact Leaf.done (XOne.mk ⟨⟨rfl, trivial⟩, trivial⟩)
      ·refine Run.setB (t := 4) rfl hc ?_
       refine Run.condF rfl ?_
       refine ro ?_
       refine oc ?_
       refine S.eql rfl rfl rfl ?_
       refine oc ?_
       refine S.move rfl ?_
       refine oz ?_
       obtain rfl := some_inj h
       refine JP.mk ?_
       exact Leaf.done (XOne.mk ⟨⟨rfl, trivial⟩, trivial⟩)
 ·intro e0 st0 hX
  rcases hX with ⟨hX⟩
  have hI : Is _ _ _ := hX
  revert hI
  refine fun hI => hI.elim ?_
  intro e H
  rcases ite_some h with ⟨hc, h⟩ | ⟨hc, h⟩
  ·refine Run.setB (t := 4) rfl hc ?_
   refine Run.condT rfl ?_
   refine rs ?_
   refine ro ?_
   refine oc ?_
   refine S.move rfl ?_
   refine oz ?_
   refine Run.ret ?_
   obtain rfl := some_inj h
   exact FinS.fin (End.tmp rfl rfl rfl)
  ·refine Run.setB (t := 4) rfl hc ?_
   refine Run.condF rfl ?_
   refine Run.skip ?_
   refine rs ?_
   refine ro ?_
   refine oc ?_
   refine S.move rfl ?_
   refine oz ?_
   refine Run.ret ?_
   obtain rfl := some_inj h
   exact FinS.fin (End.tmp rfl rfl rfl)

theorem r32 (a0 : Int) (r : T_whole_Int) (h : whole_From a0 = some r) : Fn Try.prog 32 [.int .i64 a0] (.agg (c_whole_Int r)) := by
 unfold whole_From at h
 refine Fn.ofS hm Try.func32 t32 (Nat.le_of_ble_eq_true rfl) ?_
 refine rs ?_
 refine ro ?_
 refine oc ?_
 refine S.alloc rfl ?_
 refine oz ?_
 refine rs ?_
 refine rs ?_
 refine ro ?_
 refine oc ?_
 refine S.move rfl ?_
 refine oc ?_
 refine S.lss rfl rfl rfl ?_
 refine oz ?_
 rcases ite_some h with ⟨hc, h⟩ | ⟨hc, h⟩
 ·refine Run.setB (t := 4) rfl hc ?_
  refine Run.condT rfl ?_
  refine rs ?_
  refine ro ?_
  refine oc ?_
  refine S.move rfl ?_
  refine oc ?_
  refine S.add rfl rfl rfl ?_
  refine oc ?_
  refine S.neg rfl rfl ?_
  refine oc ?_
  refine S.toInt rfl rfl ?_
  refine oc ?_
  refine S.add rfl rfl rfl ?_
  obtain ⟨v1, h_v1, h⟩ := bnd_some h
  refine oc ?_
  refine S.call (And.intro rfl rfl) (r33 (wrap .u64 ((wrap .u64 (wrap .i64 (0 - (wrap .i64 (a0 + 1))))) + 1)) _ h_v1) rfl ?_
  refine oc ?_
  refine S.build (And.intro rfl rfl) (And.intro rfl (And.intro rfl (And.intro (Nat.le_of_ble_eq_true rfl) (And.intro rfl (And.intro rfl (And.intro (Nat.le_of_ble_eq_true rfl) rfl)))))) ?_
  refine oc ?_
  refine S.storeP rfl rfl rfl rfl rfl rfl (Nat.le_of_ble_eq_true rfl) rfl ?_
  refine oz ?_
  refine Run.cutJ (J := fun st => ∃ g2 : Nat, Is [(2, .ptr 2 g2 0)] [(2, g2, some (.box [.sl (List.map c_u32 v1), .bool true]))] st) ⟨_, ⟨rfl, trivial⟩, ⟨rfl, trivial⟩⟩ ?_
  rintro st ⟨g2, hI⟩
  have hI : Is _ _ _ := hI
  revert hI
  refine fun hI => hI.elim ?_
  intro e H
  refine Run.ret ?_
  obtain rfl := some_inj h
  exact FinS.fin (End.cell rfl rfl rfl rfl rfl)
 ·refine Run.setB (t := 4) rfl hc ?_
  refine Run.condF rfl ?_
  refine Run.skip ?_
  refine rs ?_
  refine ro ?_
  refine oc ?_
  refine S.move rfl ?_
  refine oc ?_
  refine S.toInt rfl rfl ?_
  obtain ⟨v2, h_v2, h⟩ := bnd_some h
  refine oc ?_
  refine S.call (And.intro rfl rfl) (r33 (wrap .u64 a0) _ h_v2) rfl ?_
  refine oc ?_
  refine S.build (And.intro rfl rfl) (And.intro rfl (And.intro rfl (And.intro (Nat.le_of_ble_eq_true rfl) (And.intro rfl (And.intro rfl (And.intro (Nat.le_of_ble_eq_true rfl) rfl)))))) ?_
  refine oc ?_
  refine S.storeP rfl rfl rfl rfl rfl rfl (Nat.le_of_ble_eq_true rfl) rfl ?_
  refine oz ?_
  refine Run.ret ?_
  obtain rfl := some_inj h
  exact FinS.fin (End.cell rfl rfl rfl rfl rfl)

theorem r13 (a0 : Int) (r : T_ratio_Rat) (h : ratio_From a0 = some r) : Fn Try.prog 13 [.int .i64 a0] (.agg (c_ratio_Rat r)) := by
 unfold ratio_From at h
 refine Fn.ofS hm Try.func13 t13 (Nat.le_of_ble_eq_true rfl) ?_
 refine rs ?_
 refine ro ?_
 refine oc ?_
 refine S.alloc rfl ?_
 refine oz ?_
 refine rs ?_
 refine ro ?_
 refine oc ?_
 refine S.move rfl ?_
 obtain ⟨v1, h_v1, h⟩ := bnd_some h
 refine oc ?_
 refine S.call (And.intro rfl rfl) (r32 a0 _ h_v1) rfl ?_
 obtain ⟨v2, h_v2, h⟩ := bnd_some h
 refine oc ?_
 refine S.call (And.intro rfl rfl) (r33 1 _ h_v2) rfl ?_
 refine oc ?_
 refine S.build (And.intro rfl rfl) (And.intro rfl (And.intro rfl (And.intro (Nat.le_of_ble_eq_true rfl) (And.intro rfl (And.intro rfl (And.intro (Nat.le_of_ble_eq_true rfl) rfl)))))) ?_
 refine oc ?_
 refine S.storeP rfl rfl rfl rfl rfl rfl (Nat.le_of_ble_eq_true rfl) rfl ?_
 refine oz ?_
 refine Run.ret ?_
 obtain rfl := some_inj h
 exact FinS.fin (End.cell rfl rfl rfl rfl rfl)

theorem r21 (a0 : Bool) (r : T_ratio_Rat) (h : dyad_truth a0 = some r) : Fn Try.prog 21 [.bool a0] (.agg (c_ratio_Rat r)) := by
 unfold dyad_truth at h
 refine Fn.ofS hm Try.func21 t21 (Nat.le_of_ble_eq_true rfl) ?_
 refine rs ?_
 refine ro ?_
 refine oc ?_
 refine S.alloc rfl ?_
 refine oz ?_
 refine rs ?_
 refine rs ?_
 refine ro ?_
 refine oc ?_
 refine S.move rfl ?_
 refine oz ?_
 rcases ite_some h with ⟨hc, h⟩ | ⟨hc, h⟩
 ·refine Run.setB (t := 3) rfl hc ?_
  refine Run.condT rfl ?_
  refine rs ?_
  refine ro ?_
  obtain ⟨v1, h_v1, h⟩ := bnd_some h
  refine oc ?_
  refine S.call (And.intro rfl rfl) (r13 1 _ h_v1) rfl ?_
  refine oc ?_
  refine S.storeP rfl rfl rfl rfl rfl rfl (Nat.le_of_ble_eq_true rfl) rfl ?_
  refine oz ?_
  refine Run.ret ?_
  obtain rfl := some_inj h
  exact FinS.fin (End.cell rfl rfl rfl rfl rfl)
 ·refine Run.setB (t := 3) rfl hc ?_
  refine Run.condF rfl ?_
  refine Run.skip ?_
  refine rs ?_
  refine ro ?_
  refine oc ?_
  refine S.build (And.intro rfl rfl) rfl ?_
  refine oc ?_
  refine S.storeP rfl rfl rfl rfl rfl rfl (Nat.le_of_ble_eq_true rfl) rfl ?_
  refine oz ?_
  refine Run.ret ?_
  obtain rfl := some_inj h
  exact FinS.fin (End.cell rfl rfl rfl rfl rfl)

theorem r22 (a0 : Int) (r : Bool) (h : dyad_judges a0 = some r) : Fn Try.prog 22 [.int .i32 a0] (.bool r) := by
 unfold dyad_judges at h
 refine Fn.ofS hm Try.func22 t22 (Nat.le_of_ble_eq_true rfl) ?_
 refine rs ?_
 refine ro ?_
 refine oc ?_
 refine S.move rfl ?_
 refine oz ?_
 refine rs ?_
 refine rs ?_
 refine ro ?_
 refine oc ?_
 refine S.move rfl ?_
 refine oz ?_
 refine Run.block ?_
 refine rs ?_
 obtain ⟨x1, hx, h⟩ := lt_some h
 refine Run.joinG (X := (XOne .normal (fun (x : Bool) (st : St) => Is [(4, .bool x)] [] st))) (x := x1) ?_ ?_
 ·replace h := hx
  refine rs ?_
  refine ro ?_
  refine oc ?_
  refine S.eql rfl rfl rfl ?_
  refine oc ?_
  refine S.move rfl ?_
  refine oz ?_
  rcases itep h with ⟨hc, h⟩ | ⟨hc, h⟩
  ·refine Run.setB (t := 4) rfl hc ?_
   refine Run.condT rfl ?_
   refine Run.skip ?_
   obtain rfl := some_inj h
   refine JP.mk ?_
   exact Leaf.done (XOne.mk ⟨⟨rfl, trivial⟩, trivial⟩)
  ·refine Run.setB (t := 4) rfl hc ?_
   refine Run.condF rfl ?_
   refine rs ?_
   refine ro ?_
   refine oc ?_
   refine S.eql rfl rfl rfl ?_
   refine oc ?_
   refine S.move rfl ?_
   refine oz ?_
   rcases itep h with ⟨hc, h⟩ | ⟨hc, h⟩
   ·refine Run.setB (t := 4) rfl hc ?_
    refine Run.condT rfl ?_
    refine Run.skip ?_
    obtain rfl := some_inj h
    refine JP.mk ?_
    exact Leaf.done (XOne.mk ⟨⟨rfl, trivial⟩, trivial⟩)
   ·refine Run.setB (t := 4) rfl hc ?_
    refine Run.condF rfl ?_
    refine rs ?_
    refine ro ?_
    refine oc ?_
    refine S.eql rfl rfl rfl ?_
    refine oc ?_
    refine S.move rfl ?_
    refine oz ?_
    rcases itep h with ⟨hc, h⟩ | ⟨hc, h⟩
    ·refine Run.setB (t := 4) rfl hc ?_
     refine Run.condT rfl ?_
     refine Run.skip ?_
     obtain rfl := some_inj h
     refine JP.mk ?_
     exact Leaf.done (XOne.mk ⟨⟨rfl, trivial⟩, trivial⟩)
    ·refine Run.setB (t := 4) rfl hc ?_
     refine Run.condF rfl ?_
     refine ro ?_
     refine oc ?_
     refine S.eql rfl rfl rfl ?_
     refine oc ?_
     refine S.move rfl ?_
     refine oz ?_
     obtain rfl := some_inj h
     refine JP.mk ?_
     exact Leaf.done (XOne.mk ⟨⟨rfl, trivial⟩, trivial⟩)
 ·intro e0 st0 hX
  rcases hX with ⟨hX⟩
  have hI : Is _ _ _ := hX
  revert hI
  refine fun hI => hI.elim ?_
  intro e H
  rcases ite_some h with ⟨hc, h⟩ | ⟨hc, h⟩
  ·refine Run.setB (t := 4) rfl hc ?_
   refine Run.condT rfl ?_
   refine rs ?_
   refine ro ?_
   refine oc ?_
   refine S.move rfl ?_
   refine oz ?_
   refine Run.ret ?_
   obtain rfl := some_inj h
   exact FinS.fin (End.tmp rfl rfl rfl)
  ·refine Run.setB (t := 4) rfl hc ?_
   refine Run.condF rfl ?_
   refine Run.skip ?_
   refine rs ?_
   refine ro ?_
   refine oc ?_
   refine S.move rfl ?_
   refine oz ?_
   refine Run.ret ?_
   obtain rfl := some_inj h
   exact FinS.fin (End.tmp rfl rfl rfl)

theorem r80 (a0 : T_nat_Nat) (r : Bool) (h : nat_Nat_One a0 = some r) : Fn Try.prog 80 [.agg (c_nat_Nat a0)] (.bool r) := by
 unfold nat_Nat_One at h
 refine Fn.ofS hm Try.func80 t80 (Nat.le_of_ble_eq_true rfl) ?_
 refine rs ?_
 refine ro ?_
 refine oc ?_
 refine S.box rfl rfl rfl rfl ?_
 refine oc ?_
 refine S.move rfl ?_
 refine oz ?_
 refine rs ?_
 refine ro ?_
 refine oc ?_
 refine S.faddrP rfl rfl ?_
 refine oc ?_
 refine S.loadP rfl rfl rfl ?_
 refine oc ?_
 refine S.lenLM rfl ?_
 refine oc ?_
 refine S.eql rfl rfl rfl ?_
 refine oc ?_
 refine S.move rfl ?_
 obtain ⟨x2, hx, h⟩ := bnd_some h
 refine OpsR.splitAt 6 (J := fun st => Is [(13, .bool x2)] [] st) ?_ ?_
 ·replace h := hx
  rcases ite_some h with ⟨hc, h⟩ | ⟨hc, h⟩
  ·refine OpsR.setB (t := 7) rfl hc ?_
   refine oc ?_
   refine S.on rfl ?_
   refine S.faddrP rfl rfl ?_
   refine oc ?_
   refine S.on rfl ?_
   refine S.loadP rfl rfl rfl ?_
   obtain ⟨v1, h_v1, h⟩ := bnd_some h
   refine oc ?_
   refine S.on rfl ?_
   refine S.iaddrLM (c := c_u32) rfl rfl h_v1 (fun _ => rfl) ?_
   refine oc ?_
   refine S.on rfl ?_
   refine S.loadC rfl rfl ?_
   refine oc ?_
   refine S.on rfl ?_
   refine S.eql rfl rfl rfl ?_
   refine oc ?_
   refine S.pick rfl rfl rfl rfl ?_
   obtain rfl := some_inj h
   refine oz ?_
   exact ⟨⟨rfl, trivial⟩, trivial⟩
  ·refine OpsR.setB (t := 7) rfl hc ?_
   refine oc ?_
   refine S.off rfl (by decide) ?_
   refine oc ?_
   refine S.off rfl (by decide) ?_
   refine oc ?_
   refine S.off rfl (by decide) ?_
   refine oc ?_
   refine S.off rfl (by decide) ?_
   refine oc ?_
   refine S.off rfl (by decide) ?_
   refine oc ?_
   refine S.pick rfl rfl rfl rfl ?_
   obtain rfl := some_inj h
   refine oz ?_
   exact ⟨⟨rfl, trivial⟩, trivial⟩
 ·rintro st hI
  have hI : Is _ _ _ := hI
  revert hI
  refine fun hI => hI.elim ?_
  intro e H
  refine oc ?_
  refine S.move rfl ?_
  refine oz ?_
  refine Run.ret ?_
  obtain rfl := some_inj h
  exact FinS.fin (End.tmp rfl rfl rfl)

theorem r63 (a0 : T_ratio_Rat) (r : Bool) (h : ratio_Rat_IsWhole a0 = some r) : Fn Try.prog 63 [.agg (c_ratio_Rat a0)] (.bool r) := by
 unfold ratio_Rat_IsWhole at h
 refine Fn.ofS hm Try.func63 t63 (Nat.le_of_ble_eq_true rfl) ?_
 refine rs ?_
 refine ro ?_
 refine oc ?_
 refine S.box rfl rfl rfl rfl ?_
 refine oc ?_
 refine S.move rfl ?_
 refine oz ?_
 refine rs ?_
 refine ro ?_
 refine oc ?_
 refine S.loadP rfl rfl rfl ?_
 obtain ⟨v1, h_v1, h⟩ := bnd_some h
 refine oc ?_
 refine S.call (And.intro rfl rfl) (r37 a0 _ h_v1) rfl ?_
 obtain ⟨v2, h_v2, h⟩ := bnd_some h
 refine oc ?_
 refine S.call (And.intro rfl rfl) (r80 v1 _ h_v2) rfl ?_
 refine oc ?_
 refine S.move rfl ?_
 refine oz ?_
 refine Run.ret ?_
 obtain rfl := some_inj h
 exact FinS.fin (End.tmp rfl rfl rfl)


end Go.Ev.T
