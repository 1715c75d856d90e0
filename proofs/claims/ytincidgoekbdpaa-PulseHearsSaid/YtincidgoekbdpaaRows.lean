/-
  No cell of these rows narrows 'for every input' (looked for: loops, veiled, ifaces, maps, wideKeys, modest, calm, conditions, laid).
  DERIVED. THE GIVEN ROWS OF THIS SEAT. 5 by the template 'for every input the law returns true; each argument reads behind the call as it read before'; 0 by the template 'total and deterministic' (their statements: YtincidgoekbdpaaTotals.lean).
  GIVEN WITH THE SEED: the statements are not yours to turn. If you find one false, say at which input.
  Laid BY PROGRAM, IN A SANDBOX (cutbox-rows.mjs): the forced cells as the released guide's own fill.sh prints them over the translation 095b2871c1b1a0fa… (all of the seat's roots in one cut). By AI agents, Wed Nov 11 2026. No macro, syntax, notation, axiom, sorry.
-/
import Derived.Test.YtincidgoekbdpaaChecked
import GoSem.Claim
import GoSem.ClaimJoined
import GoSem.ClaimMapViews
import Derived.JoinedTies
import Derived.KernelRfl
namespace Go.Proofs.Ytincidgoekbdpaa
/- THE CELL 'sum', in the pinned program and in every row, IS THE sha256 OF THE DUMP (.gsa) THAT YtincidgoekbdpaaProg.lean LOADS. Nothing in Lean hashes anything: it is a label: what it is worth is what the hold of that sum in a sandbox is worth. -/
noncomputable def Try.pinned : Pinned := { name := "ytincidgoekbdpaa", sum := "095b2871c1b1a0fa088b33f31503c085da8f81c95deb90cd1751ccb182d2222e", checked := Try.checked }
namespace Rows
def none {H : Type} : Left H := { results := [], args := [] }

/-- 'tripwirelaw23.PulseMakes': WHATEVER THE INPUT: true; the input reads as it did. -/
def pulseMakesSpec : ChangeSpec := { name := "pulseMakes", fn := fun _ => fun
  | [d] => { results := [.lit (.bool true)], args := [d] }
  | _ => none }
def pulseMakesRow : OpenClaim := { program := "ytincidgoekbdpaa", sum := "095b2871c1b1a0fa088b33f31503c085da8f81c95deb90cd1751ccb182d2222e", func := "tripwire/tripwirelaw23.PulseMakes", spec := "pulseMakes", inPlace := ["slices.overlaps[tripwire/shelf.row[int, int]]"], unfollowed := true, recurses := true, apart := false }
def PulseMakesSaid : Prop := pulseMakesRow.holds Try.pinned (OpenSpec.ofChange pulseMakesSpec)

/-- ITS FALSE NEIGHBOUR: 'it returns false'. Refute it at one input. -/
def pulseMakesWrong : ChangeSpec := { name := "pulseMakes", fn := fun _ => fun
  | [d] => { results := [.lit (.bool false)], args := [d] }
  | _ => none }
def PulseMakesWrongFalsely : Prop := pulseMakesRow.holds Try.pinned (OpenSpec.ofChange pulseMakesWrong)

/-- 'tripwirelaw23.PulseHears': WHATEVER THE INPUT: true; the input reads as it did. -/
def pulseHearsSpec : ChangeSpec := { name := "pulseHears", fn := fun _ => fun
  | [d1, d2, d3] => { results := [.lit (.bool true)], args := [d1, d2, d3] }
  | _ => none }
def pulseHearsRow : OpenClaim := { program := "ytincidgoekbdpaa", sum := "095b2871c1b1a0fa088b33f31503c085da8f81c95deb90cd1751ccb182d2222e", func := "tripwire/tripwirelaw23.PulseHears", spec := "pulseHears", inPlace := ["slices.overlaps[tripwire/shelf.row[int, int]]"], unfollowed := true, recurses := true, apart := false }
def PulseHearsSaid : Prop := pulseHearsRow.holds Try.pinned (OpenSpec.ofChange pulseHearsSpec)

/-- ITS FALSE NEIGHBOUR: 'it returns false'. Refute it at one input. -/
def pulseHearsWrong : ChangeSpec := { name := "pulseHears", fn := fun _ => fun
  | [d1, d2, d3] => { results := [.lit (.bool false)], args := [d1, d2, d3] }
  | _ => none }
def PulseHearsWrongFalsely : Prop := pulseHearsRow.holds Try.pinned (OpenSpec.ofChange pulseHearsWrong)

/-- 'tripwirelaw23.PulseSteps': WHATEVER THE INPUT: true; the input reads as it did. -/
def pulseStepsSpec : ChangeSpec := { name := "pulseSteps", fn := fun _ => fun
  | [d1, d2, d3, d4] => { results := [.lit (.bool true)], args := [d1, d2, d3, d4] }
  | _ => none }
def pulseStepsRow : OpenClaim := { program := "ytincidgoekbdpaa", sum := "095b2871c1b1a0fa088b33f31503c085da8f81c95deb90cd1751ccb182d2222e", func := "tripwire/tripwirelaw23.PulseSteps", spec := "pulseSteps", inPlace := ["slices.overlaps[tripwire/shelf.row[int, int]]"], unfollowed := true, recurses := true, apart := false }
def PulseStepsSaid : Prop := pulseStepsRow.holds Try.pinned (OpenSpec.ofChange pulseStepsSpec)

/-- ITS FALSE NEIGHBOUR: 'it returns false'. Refute it at one input. -/
def pulseStepsWrong : ChangeSpec := { name := "pulseSteps", fn := fun _ => fun
  | [d1, d2, d3, d4] => { results := [.lit (.bool false)], args := [d1, d2, d3, d4] }
  | _ => none }
def PulseStepsWrongFalsely : Prop := pulseStepsRow.holds Try.pinned (OpenSpec.ofChange pulseStepsWrong)

/-- 'tripwirelaw22.BeatMakes': WHATEVER THE INPUT: true; the input reads as it did. -/
def beatMakesSpec : ChangeSpec := { name := "beatMakes", fn := fun _ => fun
  | [d] => { results := [.lit (.bool true)], args := [d] }
  | _ => none }
def beatMakesRow : OpenClaim := { program := "ytincidgoekbdpaa", sum := "095b2871c1b1a0fa088b33f31503c085da8f81c95deb90cd1751ccb182d2222e", func := "tripwire/tripwirelaw22.BeatMakes", spec := "beatMakes", inPlace := ["slices.overlaps[tripwire/shelf.row[int, int]]", "slices.overlaps[tripwire/shelf.row[int, tripwire/beat.one]]"], unfollowed := true, recurses := true, apart := false }
def BeatMakesSaid : Prop := beatMakesRow.holds Try.pinned (OpenSpec.ofChange beatMakesSpec)

/-- ITS FALSE NEIGHBOUR: 'it returns false'. Refute it at one input. -/
def beatMakesWrong : ChangeSpec := { name := "beatMakes", fn := fun _ => fun
  | [d] => { results := [.lit (.bool false)], args := [d] }
  | _ => none }
def BeatMakesWrongFalsely : Prop := beatMakesRow.holds Try.pinned (OpenSpec.ofChange beatMakesWrong)

/-- 'tripwirelaw22.BeatLives': WHATEVER THE INPUT: true; the input reads as it did. -/
def beatLivesSpec : ChangeSpec := { name := "beatLives", fn := fun _ => fun
  | [d1, d2, d3] => { results := [.lit (.bool true)], args := [d1, d2, d3] }
  | _ => none }
def beatLivesRow : OpenClaim := { program := "ytincidgoekbdpaa", sum := "095b2871c1b1a0fa088b33f31503c085da8f81c95deb90cd1751ccb182d2222e", func := "tripwire/tripwirelaw22.BeatLives", spec := "beatLives", inPlace := ["slices.overlaps[tripwire/shelf.row[int, int]]", "slices.overlaps[tripwire/shelf.row[int, tripwire/beat.one]]"], unfollowed := true, recurses := true, apart := false }
def BeatLivesSaid : Prop := beatLivesRow.holds Try.pinned (OpenSpec.ofChange beatLivesSpec)

/-- ITS FALSE NEIGHBOUR: 'it returns false'. Refute it at one input. -/
def beatLivesWrong : ChangeSpec := { name := "beatLives", fn := fun _ => fun
  | [d1, d2, d3] => { results := [.lit (.bool false)], args := [d1, d2, d3] }
  | _ => none }
def BeatLivesWrongFalsely : Prop := beatLivesRow.holds Try.pinned (OpenSpec.ofChange beatLivesWrong)

/- THE SECOND FORM. 'bulk': how many values and letters a reading holds, each counted each time it is reached (what is shared counts as often as it is met; a slice's spare places count too). A statement '..UptoSaid' is the law's where the arguments, and the package variables that the reading takes, are together of bulk at most 1048576: NARROWER than '..Said'. Prove '..Said' where nothing that the law and all that it calls make is longer than what came in: it says more and counts as full. Else prove '..UptoSaid'. A law counts once. -/
mutual
def uptoBulk {H : Type} : DataW H → Nat
  | .lit (.string bytes) => bytes.length + 1
  | .lit _ => 1
  | .nil => 1
  | .ptr d => uptoBulk d + 1
  | .slice elems spare => uptoBulkAll elems + uptoBulkAll spare + 1
  | .agg parts => uptoBulkAll parts + 1
  | .iface _ d => uptoBulk d + 1
  | .map entries => uptoBulkEntries entries + 1
  | .held _ => 1
def uptoBulkAll {H : Type} : List (DataW H) → Nat
  | [] => 0
  | d :: r => uptoBulk d + uptoBulkAll r
def uptoBulkEntries {H : Type} : List (Lit × DataW H) → Nat
  | [] => 0
  | x :: r => uptoBulkEntry x + uptoBulkEntries r
def uptoBulkEntry {H : Type} : Lit × DataW H → Nat
  | (.string bytes, d) => bytes.length + uptoBulk d + 1
  | (_, d) => uptoBulk d + 1
 end
def uptoSmall : (H : Type) → List (DataW H) → Bool := fun _ ds => decide (uptoBulkAll ds ≤ 1048576)
def OpenSpec.upto (s : _root_.Go.ChangeSpec) : _root_.Go.OpenSpec := { _root_.Go.OpenSpec.ofChange s with cond := some uptoSmall }

/-- 'tripwirelaw23.PulseMakes', WHERE WHAT IT READS IS OF BULK AT MOST 1048576: true; the input reads as it did. -/
def pulseMakesUptoRow : OpenClaim := { program := "ytincidgoekbdpaa", sum := "095b2871c1b1a0fa088b33f31503c085da8f81c95deb90cd1751ccb182d2222e", func := "tripwire/tripwirelaw23.PulseMakes", spec := "pulseMakes", inPlace := ["slices.overlaps[tripwire/shelf.row[int, int]]"], unfollowed := true, recurses := true, apart := false, narrowed := true }
def PulseMakesUptoSaid : Prop := pulseMakesUptoRow.holds Try.pinned (OpenSpec.upto pulseMakesSpec)

/-- 'tripwirelaw23.PulseHears', WHERE WHAT IT READS IS OF BULK AT MOST 1048576: true; the input reads as it did. -/
def pulseHearsUptoRow : OpenClaim := { program := "ytincidgoekbdpaa", sum := "095b2871c1b1a0fa088b33f31503c085da8f81c95deb90cd1751ccb182d2222e", func := "tripwire/tripwirelaw23.PulseHears", spec := "pulseHears", inPlace := ["slices.overlaps[tripwire/shelf.row[int, int]]"], unfollowed := true, recurses := true, apart := false, narrowed := true }
def PulseHearsUptoSaid : Prop := pulseHearsUptoRow.holds Try.pinned (OpenSpec.upto pulseHearsSpec)

/-- 'tripwirelaw23.PulseSteps', WHERE WHAT IT READS IS OF BULK AT MOST 1048576: true; the input reads as it did. -/
def pulseStepsUptoRow : OpenClaim := { program := "ytincidgoekbdpaa", sum := "095b2871c1b1a0fa088b33f31503c085da8f81c95deb90cd1751ccb182d2222e", func := "tripwire/tripwirelaw23.PulseSteps", spec := "pulseSteps", inPlace := ["slices.overlaps[tripwire/shelf.row[int, int]]"], unfollowed := true, recurses := true, apart := false, narrowed := true }
def PulseStepsUptoSaid : Prop := pulseStepsUptoRow.holds Try.pinned (OpenSpec.upto pulseStepsSpec)

/-- 'tripwirelaw22.BeatMakes', WHERE WHAT IT READS IS OF BULK AT MOST 1048576: true; the input reads as it did. -/
def beatMakesUptoRow : OpenClaim := { program := "ytincidgoekbdpaa", sum := "095b2871c1b1a0fa088b33f31503c085da8f81c95deb90cd1751ccb182d2222e", func := "tripwire/tripwirelaw22.BeatMakes", spec := "beatMakes", inPlace := ["slices.overlaps[tripwire/shelf.row[int, int]]", "slices.overlaps[tripwire/shelf.row[int, tripwire/beat.one]]"], unfollowed := true, recurses := true, apart := false, narrowed := true }
def BeatMakesUptoSaid : Prop := beatMakesUptoRow.holds Try.pinned (OpenSpec.upto beatMakesSpec)

/-- 'tripwirelaw22.BeatLives', WHERE WHAT IT READS IS OF BULK AT MOST 1048576: true; the input reads as it did. -/
def beatLivesUptoRow : OpenClaim := { program := "ytincidgoekbdpaa", sum := "095b2871c1b1a0fa088b33f31503c085da8f81c95deb90cd1751ccb182d2222e", func := "tripwire/tripwirelaw22.BeatLives", spec := "beatLives", inPlace := ["slices.overlaps[tripwire/shelf.row[int, int]]", "slices.overlaps[tripwire/shelf.row[int, tripwire/beat.one]]"], unfollowed := true, recurses := true, apart := false, narrowed := true }
def BeatLivesUptoSaid : Prop := beatLivesUptoRow.holds Try.pinned (OpenSpec.upto beatLivesSpec)

end Rows
end Go.Proofs.Ytincidgoekbdpaa
