/-
  No cell of these rows narrows 'for every input' (looked for: loops, veiled, ifaces, maps, wideKeys, modest, calm, conditions, laid).
  DERIVED. THE GIVEN ROWS OF THIS SEAT. 3 by the template 'for every input the law returns true; each argument reads behind the call as it read before'; 0 by the template 'total and deterministic' (their statements: YgdamgTotals.lean).
  GIVEN WITH THE SEED: the statements are not yours to turn. If you find one false, say at which input.
  Laid BY PROGRAM, IN A SANDBOX (cutbox-rows.mjs): the forced cells as the released guide's own fill.sh prints them over the translation 8e18ec45f3a59716… (all of the seat's roots in one cut). By AI agents, Wed Nov 11 2026. No macro, syntax, notation, axiom, sorry.
-/
import Derived.Test.YgdamgChecked
import GoSem.Claim
import GoSem.ClaimJoined
import GoSem.ClaimMapViews
import Derived.JoinedTies
import Derived.KernelRfl
namespace Go.Proofs.Ygdamg
/- THE CELL 'sum', in the pinned program and in every row, IS THE sha256 OF THE DUMP (.gsa) THAT YgdamgProg.lean LOADS. Nothing in Lean hashes anything: it is a label: what it is worth is what the hold of that sum in a sandbox is worth. -/
noncomputable def Yamd.pinned : Pinned := { name := "ygdamg", sum := "8e18ec45f3a59716b0ca55d01b32977691977f00a47e3e98df0378e34e011804", checked := Yamd.checked }
namespace Rows
def none {H : Type} : Left H := { results := [], args := [] }

/-- 'law.ValidateSpec': WHATEVER THE INPUT: true; the input reads as it did. -/
def validateSpecSpec : ChangeSpec := { name := "validateSpec", fn := fun _ => fun
  | [d] => { results := [.lit (.bool true)], args := [d] }
  | _ => none }
def validateSpecRow : OpenClaim := { program := "ygdamg", sum := "8e18ec45f3a59716b0ca55d01b32977691977f00a47e3e98df0378e34e011804", func := "taskgraph/law.ValidateSpec", spec := "validateSpec", unfollowed := true, recurses := true, apart := false }
def ValidateSpecSaid : Prop := validateSpecRow.holds Yamd.pinned (OpenSpec.ofChange validateSpecSpec)

/-- ITS FALSE NEIGHBOUR: 'it returns false'. Refute it at one input. -/
def validateSpecWrong : ChangeSpec := { name := "validateSpec", fn := fun _ => fun
  | [d] => { results := [.lit (.bool false)], args := [d] }
  | _ => none }
def ValidateSpecWrongFalsely : Prop := validateSpecRow.holds Yamd.pinned (OpenSpec.ofChange validateSpecWrong)

/-- 'law.ValidAccepts': WHATEVER THE INPUT: true; the input reads as it did. -/
def validAcceptsSpec : ChangeSpec := { name := "validAccepts", fn := fun _ => fun
  | [] => { results := [.lit (.bool true)], args := [] }
  | _ => none }
def validAcceptsRow : OpenClaim := { program := "ygdamg", sum := "8e18ec45f3a59716b0ca55d01b32977691977f00a47e3e98df0378e34e011804", func := "taskgraph/law.ValidAccepts", spec := "validAccepts", unfollowed := true, recurses := true, apart := false }
def ValidAcceptsSaid : Prop := validAcceptsRow.holds Yamd.pinned (OpenSpec.ofChange validAcceptsSpec)

/-- ITS FALSE NEIGHBOUR: 'it returns false'. Refute it at one input. -/
def validAcceptsWrong : ChangeSpec := { name := "validAccepts", fn := fun _ => fun
  | [] => { results := [.lit (.bool false)], args := [] }
  | _ => none }
def ValidAcceptsWrongFalsely : Prop := validAcceptsRow.holds Yamd.pinned (OpenSpec.ofChange validAcceptsWrong)

/-- 'law.OrderRight': WHATEVER THE INPUT: true; the input reads as it did. -/
def orderRightSpec : ChangeSpec := { name := "orderRight", fn := fun _ => fun
  | [d] => { results := [.lit (.bool true)], args := [d] }
  | _ => none }
def orderRightRow : OpenClaim := { program := "ygdamg", sum := "8e18ec45f3a59716b0ca55d01b32977691977f00a47e3e98df0378e34e011804", func := "taskgraph/law.OrderRight", spec := "orderRight", unfollowed := true, recurses := true, apart := false }
def OrderRightSaid : Prop := orderRightRow.holds Yamd.pinned (OpenSpec.ofChange orderRightSpec)

/-- ITS FALSE NEIGHBOUR: 'it returns false'. Refute it at one input. -/
def orderRightWrong : ChangeSpec := { name := "orderRight", fn := fun _ => fun
  | [d] => { results := [.lit (.bool false)], args := [d] }
  | _ => none }
def OrderRightWrongFalsely : Prop := orderRightRow.holds Yamd.pinned (OpenSpec.ofChange orderRightWrong)

end Rows
end Go.Proofs.Ygdamg
