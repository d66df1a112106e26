/-
  No cell of these rows narrows 'for every input' (looked for: loops, veiled, ifaces, maps, wideKeys, modest, calm, conditions, laid).
  DERIVED. THE GIVEN ROWS OF THIS SEAT. 3 by the template 'for every input the law returns true; each argument reads behind the call as it read before'; 0 by the template 'total and deterministic' (their statements: YtfklgafihefpeaaTotals.lean).
  GIVEN WITH THE SEED: the statements are not yours to turn. If you find one false, say at which input.
  Laid BY PROGRAM, IN A SANDBOX (cutbox-rows.mjs): the forced cells as the released guide's own fill.sh prints them over the translation cf5c6f9e1f69c354… (all of the seat's roots in one cut). By AI agents, Wed Nov 11 2026. No macro, syntax, notation, axiom, sorry.
-/
import Derived.Test.YtfklgafihefpeaaChecked
import GoSem.Claim
import GoSem.ClaimJoined
import GoSem.ClaimMapViews
import Derived.JoinedTies
import Derived.KernelRfl
namespace Go.Proofs.Ytfklgafihefpeaa
/- THE CELL 'sum', in the pinned program and in every row, IS THE sha256 OF THE DUMP (.gsa) THAT YtfklgafihefpeaaProg.lean LOADS. Nothing in Lean hashes anything: it is a label: what it is worth is what the hold of that sum in a sandbox is worth. -/
noncomputable def Try.pinned : Pinned := { name := "ytfklgafihefpeaa", sum := "cf5c6f9e1f69c3542685d17d1d586270e5aa59fb535c193ca53f8385e91c5440", checked := Try.checked }
namespace Rows
def none {H : Type} : Left H := { results := [], args := [] }

/-- 'typeballlaw13.DyadOrders': WHATEVER THE INPUT: true; the input reads as it did. -/
def dyadOrdersSpec : ChangeSpec := { name := "dyadOrders", fn := fun _ => fun
  | [d1, d2] => { results := [.lit (.bool true)], args := [d1, d2] }
  | _ => none }
def dyadOrdersRow : OpenClaim := { program := "ytfklgafihefpeaa", sum := "cf5c6f9e1f69c3542685d17d1d586270e5aa59fb535c193ca53f8385e91c5440", func := "typeball/typeballlaw13.DyadOrders", spec := "dyadOrders", apart := false }
def DyadOrdersSaid : Prop := dyadOrdersRow.holds Try.pinned (OpenSpec.ofChange dyadOrdersSpec)

/-- ITS FALSE NEIGHBOUR: 'it returns false'. Refute it at one input. -/
def dyadOrdersWrong : ChangeSpec := { name := "dyadOrders", fn := fun _ => fun
  | [d1, d2] => { results := [.lit (.bool false)], args := [d1, d2] }
  | _ => none }
def DyadOrdersWrongFalsely : Prop := dyadOrdersRow.holds Try.pinned (OpenSpec.ofChange dyadOrdersWrong)

/-- 'typeballlaw13.DyadTurned': WHATEVER THE INPUT: true; the input reads as it did. -/
def dyadTurnedSpec : ChangeSpec := { name := "dyadTurned", fn := fun _ => fun
  | [d1, d2] => { results := [.lit (.bool true)], args := [d1, d2] }
  | _ => none }
def dyadTurnedRow : OpenClaim := { program := "ytfklgafihefpeaa", sum := "cf5c6f9e1f69c3542685d17d1d586270e5aa59fb535c193ca53f8385e91c5440", func := "typeball/typeballlaw13.DyadTurned", spec := "dyadTurned", apart := false }
def DyadTurnedSaid : Prop := dyadTurnedRow.holds Try.pinned (OpenSpec.ofChange dyadTurnedSpec)

/-- ITS FALSE NEIGHBOUR: 'it returns false'. Refute it at one input. -/
def dyadTurnedWrong : ChangeSpec := { name := "dyadTurned", fn := fun _ => fun
  | [d1, d2] => { results := [.lit (.bool false)], args := [d1, d2] }
  | _ => none }
def DyadTurnedWrongFalsely : Prop := dyadTurnedRow.holds Try.pinned (OpenSpec.ofChange dyadTurnedWrong)

/-- 'typeballlaw13.DyadPowers': WHATEVER THE INPUT: true; the input reads as it did. -/
def dyadPowersSpec : ChangeSpec := { name := "dyadPowers", fn := fun _ => fun
  | [d1, d2, d3] => { results := [.lit (.bool true)], args := [d1, d2, d3] }
  | _ => none }
def dyadPowersRow : OpenClaim := { program := "ytfklgafihefpeaa", sum := "cf5c6f9e1f69c3542685d17d1d586270e5aa59fb535c193ca53f8385e91c5440", func := "typeball/typeballlaw13.DyadPowers", spec := "dyadPowers", apart := false }
def DyadPowersSaid : Prop := dyadPowersRow.holds Try.pinned (OpenSpec.ofChange dyadPowersSpec)

/-- ITS FALSE NEIGHBOUR: 'it returns false'. Refute it at one input. -/
def dyadPowersWrong : ChangeSpec := { name := "dyadPowers", fn := fun _ => fun
  | [d1, d2, d3] => { results := [.lit (.bool false)], args := [d1, d2, d3] }
  | _ => none }
def DyadPowersWrongFalsely : Prop := dyadPowersRow.holds Try.pinned (OpenSpec.ofChange dyadPowersWrong)

/- THE SECOND FORM. 'bulk': how many values and letters a reading holds, each counted each time it is reached (what is shared counts as often as it is met; a slice's spare places count too). A statement '..UptoSaid' is the law's where the arguments, and the package variables that the reading takes, are together of bulk at most 1048576: NARROWER than '..Said'. Prove '..Said' where nothing that the law and all that it calls make is longer than what came in: it says more and counts as full. Else prove '..UptoSaid'. A law counts once. -/
mutual
def uptoBulk {H : Type} : DataW H → Nat
  | .lit (.string bytes) => bytes.length + 1
  | .lit _ => 1
  | .nil => 1
  | .ptr d => uptoBulk d + 1
  | .slice elems spare => uptoBulkAll elems + uptoBulkAll spare + 1
  | .agg parts => uptoBulkAll parts + 1
  | .iface _ d => uptoBulk d + 1
  | .map entries => uptoBulkEntries entries + 1
  | .held _ => 1
def uptoBulkAll {H : Type} : List (DataW H) → Nat
  | [] => 0
  | d :: r => uptoBulk d + uptoBulkAll r
def uptoBulkEntries {H : Type} : List (Lit × DataW H) → Nat
  | [] => 0
  | x :: r => uptoBulkEntry x + uptoBulkEntries r
def uptoBulkEntry {H : Type} : Lit × DataW H → Nat
  | (.string bytes, d) => bytes.length + uptoBulk d + 1
  | (_, d) => uptoBulk d + 1
 end
def uptoSmall : (H : Type) → List (DataW H) → Bool := fun _ ds => decide (uptoBulkAll ds ≤ 1048576)
def OpenSpec.upto (s : _root_.Go.ChangeSpec) : _root_.Go.OpenSpec := { _root_.Go.OpenSpec.ofChange s with cond := some uptoSmall }

/-- 'typeballlaw13.DyadOrders', WHERE WHAT IT READS IS OF BULK AT MOST 1048576: true; the input reads as it did. -/
def dyadOrdersUptoRow : OpenClaim := { program := "ytfklgafihefpeaa", sum := "cf5c6f9e1f69c3542685d17d1d586270e5aa59fb535c193ca53f8385e91c5440", func := "typeball/typeballlaw13.DyadOrders", spec := "dyadOrders", apart := false, narrowed := true }
def DyadOrdersUptoSaid : Prop := dyadOrdersUptoRow.holds Try.pinned (OpenSpec.upto dyadOrdersSpec)

/-- 'typeballlaw13.DyadTurned', WHERE WHAT IT READS IS OF BULK AT MOST 1048576: true; the input reads as it did. -/
def dyadTurnedUptoRow : OpenClaim := { program := "ytfklgafihefpeaa", sum := "cf5c6f9e1f69c3542685d17d1d586270e5aa59fb535c193ca53f8385e91c5440", func := "typeball/typeballlaw13.DyadTurned", spec := "dyadTurned", apart := false, narrowed := true }
def DyadTurnedUptoSaid : Prop := dyadTurnedUptoRow.holds Try.pinned (OpenSpec.upto dyadTurnedSpec)

/-- 'typeballlaw13.DyadPowers', WHERE WHAT IT READS IS OF BULK AT MOST 1048576: true; the input reads as it did. -/
def dyadPowersUptoRow : OpenClaim := { program := "ytfklgafihefpeaa", sum := "cf5c6f9e1f69c3542685d17d1d586270e5aa59fb535c193ca53f8385e91c5440", func := "typeball/typeballlaw13.DyadPowers", spec := "dyadPowers", apart := false, narrowed := true }
def DyadPowersUptoSaid : Prop := dyadPowersUptoRow.holds Try.pinned (OpenSpec.upto dyadPowersSpec)

end Rows
end Go.Proofs.Ytfklgafihefpeaa
