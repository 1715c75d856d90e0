/-
  No cell of these rows narrows 'for every input' (looked for: loops, veiled, ifaces, maps, wideKeys, modest, calm, conditions, laid).
  DERIVED. THE GIVEN ROWS OF THIS SEAT. 5 by the template 'for every input the law returns true; each argument reads behind the call as it read before'; 0 by the template 'total and deterministic' (their statements: YtklnecknoadhjaaTotals.lean).
  GIVEN WITH THE SEED: the statements are not yours to turn. If you find one false, say at which input.
  Laid BY PROGRAM, IN A SANDBOX (cutbox-rows.mjs): the forced cells as the released guide's own fill.sh prints them over the translation 324be4b61d9da05a… (all of the seat's roots in one cut). By AI agents, Wed Nov 11 2026. No macro, syntax, notation, axiom, sorry.
-/
import Derived.Test.YtklnecknoadhjaaChecked
import GoSem.Claim
import GoSem.ClaimJoined
import GoSem.ClaimMapViews
import Derived.JoinedTies
import Derived.KernelRfl
namespace Go.Proofs.Ytklnecknoadhjaa
/- THE CELL 'sum', in the pinned program and in every row, IS THE sha256 OF THE DUMP (.gsa) THAT YtklnecknoadhjaaProg.lean LOADS. Nothing in Lean hashes anything: it is a label: what it is worth is what the hold of that sum in a sandbox is worth. -/
noncomputable def Try.pinned : Pinned := { name := "ytklnecknoadhjaa", sum := "324be4b61d9da05acc5732ef05cea0100eff9ed47cf6c7fdb81cba25fb0d1300", checked := Try.checked }
namespace Rows
def none {H : Type} : Left H := { results := [], args := [] }

/-- 'tripwirelaw07.FifoKeeps': WHATEVER THE INPUT: true; the input reads as it did. -/
def fifoKeepsSpec : ChangeSpec := { name := "fifoKeeps", fn := fun _ => fun
  | [d1, d2] => { results := [.lit (.bool true)], args := [d1, d2] }
  | _ => none }
def fifoKeepsRow : OpenClaim := { program := "ytklnecknoadhjaa", sum := "324be4b61d9da05acc5732ef05cea0100eff9ed47cf6c7fdb81cba25fb0d1300", func := "tripwire/tripwirelaw07.FifoKeeps", spec := "fifoKeeps", unfollowed := true, recurses := true, apart := false }
def FifoKeepsSaid : Prop := fifoKeepsRow.holds Try.pinned (OpenSpec.ofChange fifoKeepsSpec)

/-- ITS FALSE NEIGHBOUR: 'it returns false'. Refute it at one input. -/
def fifoKeepsWrong : ChangeSpec := { name := "fifoKeeps", fn := fun _ => fun
  | [d1, d2] => { results := [.lit (.bool false)], args := [d1, d2] }
  | _ => none }
def FifoKeepsWrongFalsely : Prop := fifoKeepsRow.holds Try.pinned (OpenSpec.ofChange fifoKeepsWrong)

/-- 'tripwirelaw07.FifoOrder': WHATEVER THE INPUT: true; the input reads as it did. -/
def fifoOrderSpec : ChangeSpec := { name := "fifoOrder", fn := fun _ => fun
  | [d1, d2, d3] => { results := [.lit (.bool true)], args := [d1, d2, d3] }
  | _ => none }
def fifoOrderRow : OpenClaim := { program := "ytklnecknoadhjaa", sum := "324be4b61d9da05acc5732ef05cea0100eff9ed47cf6c7fdb81cba25fb0d1300", func := "tripwire/tripwirelaw07.FifoOrder", spec := "fifoOrder", apart := false }
def FifoOrderSaid : Prop := fifoOrderRow.holds Try.pinned (OpenSpec.ofChange fifoOrderSpec)

/-- ITS FALSE NEIGHBOUR: 'it returns false'. Refute it at one input. -/
def fifoOrderWrong : ChangeSpec := { name := "fifoOrder", fn := fun _ => fun
  | [d1, d2, d3] => { results := [.lit (.bool false)], args := [d1, d2, d3] }
  | _ => none }
def FifoOrderWrongFalsely : Prop := fifoOrderRow.holds Try.pinned (OpenSpec.ofChange fifoOrderWrong)

/-- 'tripwirelaw07.FifoPlays': WHATEVER THE INPUT: true; the input reads as it did. -/
def fifoPlaysSpec : ChangeSpec := { name := "fifoPlays", fn := fun _ => fun
  | [d1, d2] => { results := [.lit (.bool true)], args := [d1, d2] }
  | _ => none }
def fifoPlaysRow : OpenClaim := { program := "ytklnecknoadhjaa", sum := "324be4b61d9da05acc5732ef05cea0100eff9ed47cf6c7fdb81cba25fb0d1300", func := "tripwire/tripwirelaw07.FifoPlays", spec := "fifoPlays", unfollowed := true, recurses := true, apart := false }
def FifoPlaysSaid : Prop := fifoPlaysRow.holds Try.pinned (OpenSpec.ofChange fifoPlaysSpec)

/-- ITS FALSE NEIGHBOUR: 'it returns false'. Refute it at one input. -/
def fifoPlaysWrong : ChangeSpec := { name := "fifoPlays", fn := fun _ => fun
  | [d1, d2] => { results := [.lit (.bool false)], args := [d1, d2] }
  | _ => none }
def FifoPlaysWrongFalsely : Prop := fifoPlaysRow.holds Try.pinned (OpenSpec.ofChange fifoPlaysWrong)

/-- 'tripwirelaw10.ArbLeast': WHATEVER THE INPUT: true; the input reads as it did. -/
def arbLeastSpec : ChangeSpec := { name := "arbLeast", fn := fun _ => fun
  | [d] => { results := [.lit (.bool true)], args := [d] }
  | _ => none }
def arbLeastRow : OpenClaim := { program := "ytklnecknoadhjaa", sum := "324be4b61d9da05acc5732ef05cea0100eff9ed47cf6c7fdb81cba25fb0d1300", func := "tripwire/tripwirelaw10.ArbLeast", spec := "arbLeast", unfollowed := true, recurses := true, apart := false }
def ArbLeastSaid : Prop := arbLeastRow.holds Try.pinned (OpenSpec.ofChange arbLeastSpec)

/-- ITS FALSE NEIGHBOUR: 'it returns false'. Refute it at one input. -/
def arbLeastWrong : ChangeSpec := { name := "arbLeast", fn := fun _ => fun
  | [d] => { results := [.lit (.bool false)], args := [d] }
  | _ => none }
def ArbLeastWrongFalsely : Prop := arbLeastRow.holds Try.pinned (OpenSpec.ofChange arbLeastWrong)

/-- 'tripwirelaw10.ArbRounds': WHATEVER THE INPUT: true; the input reads as it did. -/
def arbRoundsSpec : ChangeSpec := { name := "arbRounds", fn := fun _ => fun
  | [d1, d2] => { results := [.lit (.bool true)], args := [d1, d2] }
  | _ => none }
def arbRoundsRow : OpenClaim := { program := "ytklnecknoadhjaa", sum := "324be4b61d9da05acc5732ef05cea0100eff9ed47cf6c7fdb81cba25fb0d1300", func := "tripwire/tripwirelaw10.ArbRounds", spec := "arbRounds", unfollowed := true, recurses := true, apart := false }
def ArbRoundsSaid : Prop := arbRoundsRow.holds Try.pinned (OpenSpec.ofChange arbRoundsSpec)

/-- ITS FALSE NEIGHBOUR: 'it returns false'. Refute it at one input. -/
def arbRoundsWrong : ChangeSpec := { name := "arbRounds", fn := fun _ => fun
  | [d1, d2] => { results := [.lit (.bool false)], args := [d1, d2] }
  | _ => none }
def ArbRoundsWrongFalsely : Prop := arbRoundsRow.holds Try.pinned (OpenSpec.ofChange arbRoundsWrong)

/- THE SECOND FORM. 'bulk': how many values and letters a reading holds, each counted each time it is reached (what is shared counts as often as it is met; a slice's spare places count too). A statement '..UptoSaid' is the law's where the arguments, and the package variables that the reading takes, are together of bulk at most 1048576: NARROWER than '..Said'. Prove '..Said' where nothing that the law and all that it calls make is longer than what came in: it says more and counts as full. Else prove '..UptoSaid'. A law counts once. -/
mutual
def uptoBulk {H : Type} : DataW H → Nat
  | .lit (.string bytes) => bytes.length + 1
  | .lit _ => 1
  | .nil => 1
  | .ptr d => uptoBulk d + 1
  | .slice elems spare => uptoBulkAll elems + uptoBulkAll spare + 1
  | .agg parts => uptoBulkAll parts + 1
  | .iface _ d => uptoBulk d + 1
  | .map entries => uptoBulkEntries entries + 1
  | .held _ => 1
def uptoBulkAll {H : Type} : List (DataW H) → Nat
  | [] => 0
  | d :: r => uptoBulk d + uptoBulkAll r
def uptoBulkEntries {H : Type} : List (Lit × DataW H) → Nat
  | [] => 0
  | x :: r => uptoBulkEntry x + uptoBulkEntries r
def uptoBulkEntry {H : Type} : Lit × DataW H → Nat
  | (.string bytes, d) => bytes.length + uptoBulk d + 1
  | (_, d) => uptoBulk d + 1
 end
def uptoSmall : (H : Type) → List (DataW H) → Bool := fun _ ds => decide (uptoBulkAll ds ≤ 1048576)
def OpenSpec.upto (s : _root_.Go.ChangeSpec) : _root_.Go.OpenSpec := { _root_.Go.OpenSpec.ofChange s with cond := some uptoSmall }

/-- 'tripwirelaw07.FifoKeeps', WHERE WHAT IT READS IS OF BULK AT MOST 1048576: true; the input reads as it did. -/
def fifoKeepsUptoRow : OpenClaim := { program := "ytklnecknoadhjaa", sum := "324be4b61d9da05acc5732ef05cea0100eff9ed47cf6c7fdb81cba25fb0d1300", func := "tripwire/tripwirelaw07.FifoKeeps", spec := "fifoKeeps", unfollowed := true, recurses := true, apart := false, narrowed := true }
def FifoKeepsUptoSaid : Prop := fifoKeepsUptoRow.holds Try.pinned (OpenSpec.upto fifoKeepsSpec)

/-- 'tripwirelaw07.FifoOrder', WHERE WHAT IT READS IS OF BULK AT MOST 1048576: true; the input reads as it did. -/
def fifoOrderUptoRow : OpenClaim := { program := "ytklnecknoadhjaa", sum := "324be4b61d9da05acc5732ef05cea0100eff9ed47cf6c7fdb81cba25fb0d1300", func := "tripwire/tripwirelaw07.FifoOrder", spec := "fifoOrder", apart := false, narrowed := true }
def FifoOrderUptoSaid : Prop := fifoOrderUptoRow.holds Try.pinned (OpenSpec.upto fifoOrderSpec)

/-- 'tripwirelaw07.FifoPlays', WHERE WHAT IT READS IS OF BULK AT MOST 1048576: true; the input reads as it did. -/
def fifoPlaysUptoRow : OpenClaim := { program := "ytklnecknoadhjaa", sum := "324be4b61d9da05acc5732ef05cea0100eff9ed47cf6c7fdb81cba25fb0d1300", func := "tripwire/tripwirelaw07.FifoPlays", spec := "fifoPlays", unfollowed := true, recurses := true, apart := false, narrowed := true }
def FifoPlaysUptoSaid : Prop := fifoPlaysUptoRow.holds Try.pinned (OpenSpec.upto fifoPlaysSpec)

/-- 'tripwirelaw10.ArbLeast', WHERE WHAT IT READS IS OF BULK AT MOST 1048576: true; the input reads as it did. -/
def arbLeastUptoRow : OpenClaim := { program := "ytklnecknoadhjaa", sum := "324be4b61d9da05acc5732ef05cea0100eff9ed47cf6c7fdb81cba25fb0d1300", func := "tripwire/tripwirelaw10.ArbLeast", spec := "arbLeast", unfollowed := true, recurses := true, apart := false, narrowed := true }
def ArbLeastUptoSaid : Prop := arbLeastUptoRow.holds Try.pinned (OpenSpec.upto arbLeastSpec)

/-- 'tripwirelaw10.ArbRounds', WHERE WHAT IT READS IS OF BULK AT MOST 1048576: true; the input reads as it did. -/
def arbRoundsUptoRow : OpenClaim := { program := "ytklnecknoadhjaa", sum := "324be4b61d9da05acc5732ef05cea0100eff9ed47cf6c7fdb81cba25fb0d1300", func := "tripwire/tripwirelaw10.ArbRounds", spec := "arbRounds", unfollowed := true, recurses := true, apart := false, narrowed := true }
def ArbRoundsUptoSaid : Prop := arbRoundsUptoRow.holds Try.pinned (OpenSpec.upto arbRoundsSpec)

end Rows
end Go.Proofs.Ytklnecknoadhjaa
