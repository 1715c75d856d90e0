/-
  No cell of these rows narrows 'for every input' (looked for: loops, veiled, ifaces, maps, wideKeys, modest, calm, conditions, laid).
  DERIVED. THE GIVEN ROWS OF THIS SEAT. 12 by the template 'for every input the law returns true; each argument reads behind the call as it read before'; 0 by the template 'total and deterministic' (their statements: YtiodgiedbgjkhaaTotals.lean).
  GIVEN WITH THE SEED: the statements are not yours to turn. If you find one false, say at which input.
  Laid BY PROGRAM, IN A SANDBOX (cutbox-rows.mjs): the forced cells as the released guide's own fill.sh prints them over the translation 18d3ac489142b10c… (all of the seat's roots in one cut). By AI agents, Wed Nov 11 2026. No macro, syntax, notation, axiom, sorry.
-/
import Derived.Test.YtiodgiedbgjkhaaChecked
import GoSem.Claim
import GoSem.ClaimJoined
import GoSem.ClaimMapViews
import Derived.JoinedTies
import Derived.KernelRfl
namespace Go.Proofs.Ytiodgiedbgjkhaa
/- THE CELL 'sum', in the pinned program and in every row, IS THE sha256 OF THE DUMP (.gsa) THAT YtiodgiedbgjkhaaProg.lean LOADS. Nothing in Lean hashes anything: it is a label: what it is worth is what the hold of that sum in a sandbox is worth. -/
noncomputable def Try.pinned : Pinned := { name := "ytiodgiedbgjkhaa", sum := "18d3ac489142b10c8b9cf84e145d2f4c7db6b6cf85640880eee568270ffbf2c1", checked := Try.checked }
namespace Rows
def none {H : Type} : Left H := { results := [], args := [] }

/-- 'tripwirelaw12.TimerNone': WHATEVER THE INPUT: true; the input reads as it did. -/
def timerNoneSpec : ChangeSpec := { name := "timerNone", fn := fun _ => fun
  | [d1, d2] => { results := [.lit (.bool true)], args := [d1, d2] }
  | _ => none }
def timerNoneRow : OpenClaim := { program := "ytiodgiedbgjkhaa", sum := "18d3ac489142b10c8b9cf84e145d2f4c7db6b6cf85640880eee568270ffbf2c1", func := "tripwire/tripwirelaw12.TimerNone", spec := "timerNone", inPlace := ["slices.overlaps[tripwire/shelf.row[int, int]]", "slices.overlaps[tripwire/shelf.row[string, int]]"], unfollowed := true, recurses := true, apart := false }
def TimerNoneSaid : Prop := timerNoneRow.holds Try.pinned (OpenSpec.ofChange timerNoneSpec)

/-- ITS FALSE NEIGHBOUR: 'it returns false'. Refute it at one input. -/
def timerNoneWrong : ChangeSpec := { name := "timerNone", fn := fun _ => fun
  | [d1, d2] => { results := [.lit (.bool false)], args := [d1, d2] }
  | _ => none }
def TimerNoneWrongFalsely : Prop := timerNoneRow.holds Try.pinned (OpenSpec.ofChange timerNoneWrong)

/-- 'tripwirelaw12.TimerEvery': WHATEVER THE INPUT: true; the input reads as it did. -/
def timerEverySpec : ChangeSpec := { name := "timerEvery", fn := fun _ => fun
  | [d1, d2, d3] => { results := [.lit (.bool true)], args := [d1, d2, d3] }
  | _ => none }
def timerEveryRow : OpenClaim := { program := "ytiodgiedbgjkhaa", sum := "18d3ac489142b10c8b9cf84e145d2f4c7db6b6cf85640880eee568270ffbf2c1", func := "tripwire/tripwirelaw12.TimerEvery", spec := "timerEvery", inPlace := ["slices.overlaps[tripwire/shelf.row[string, int]]"], unfollowed := true, recurses := true, apart := false }
def TimerEverySaid : Prop := timerEveryRow.holds Try.pinned (OpenSpec.ofChange timerEverySpec)

/-- ITS FALSE NEIGHBOUR: 'it returns false'. Refute it at one input. -/
def timerEveryWrong : ChangeSpec := { name := "timerEvery", fn := fun _ => fun
  | [d1, d2, d3] => { results := [.lit (.bool false)], args := [d1, d2, d3] }
  | _ => none }
def TimerEveryWrongFalsely : Prop := timerEveryRow.holds Try.pinned (OpenSpec.ofChange timerEveryWrong)

/-- 'tripwirelaw09.MailboxNone': WHATEVER THE INPUT: true; the input reads as it did. -/
def mailboxNoneSpec : ChangeSpec := { name := "mailboxNone", fn := fun _ => fun
  | [d] => { results := [.lit (.bool true)], args := [d] }
  | _ => none }
def mailboxNoneRow : OpenClaim := { program := "ytiodgiedbgjkhaa", sum := "18d3ac489142b10c8b9cf84e145d2f4c7db6b6cf85640880eee568270ffbf2c1", func := "tripwire/tripwirelaw09.MailboxNone", spec := "mailboxNone", inPlace := ["slices.overlaps[tripwire/mailbox.letter]"], unfollowed := true, recurses := true, apart := false }
def MailboxNoneSaid : Prop := mailboxNoneRow.holds Try.pinned (OpenSpec.ofChange mailboxNoneSpec)

/-- ITS FALSE NEIGHBOUR: 'it returns false'. Refute it at one input. -/
def mailboxNoneWrong : ChangeSpec := { name := "mailboxNone", fn := fun _ => fun
  | [d] => { results := [.lit (.bool false)], args := [d] }
  | _ => none }
def MailboxNoneWrongFalsely : Prop := mailboxNoneRow.holds Try.pinned (OpenSpec.ofChange mailboxNoneWrong)

/-- 'tripwirelaw09.MailboxParts': WHATEVER THE INPUT: true; the input reads as it did. -/
def mailboxPartsSpec : ChangeSpec := { name := "mailboxParts", fn := fun _ => fun
  | [d1, d2, d3] => { results := [.lit (.bool true)], args := [d1, d2, d3] }
  | _ => none }
def mailboxPartsRow : OpenClaim := { program := "ytiodgiedbgjkhaa", sum := "18d3ac489142b10c8b9cf84e145d2f4c7db6b6cf85640880eee568270ffbf2c1", func := "tripwire/tripwirelaw09.MailboxParts", spec := "mailboxParts", inPlace := ["slices.overlaps[tripwire/mailbox.letter]"], apart := false }
def MailboxPartsSaid : Prop := mailboxPartsRow.holds Try.pinned (OpenSpec.ofChange mailboxPartsSpec)

/-- ITS FALSE NEIGHBOUR: 'it returns false'. Refute it at one input. -/
def mailboxPartsWrong : ChangeSpec := { name := "mailboxParts", fn := fun _ => fun
  | [d1, d2, d3] => { results := [.lit (.bool false)], args := [d1, d2, d3] }
  | _ => none }
def MailboxPartsWrongFalsely : Prop := mailboxPartsRow.holds Try.pinned (OpenSpec.ofChange mailboxPartsWrong)

/-- 'tripwirelaw23.PulseFrames': WHATEVER THE INPUT: true; the input reads as it did. -/
def pulseFramesSpec : ChangeSpec := { name := "pulseFrames", fn := fun _ => fun
  | [d1, d2] => { results := [.lit (.bool true)], args := [d1, d2] }
  | _ => none }
def pulseFramesRow : OpenClaim := { program := "ytiodgiedbgjkhaa", sum := "18d3ac489142b10c8b9cf84e145d2f4c7db6b6cf85640880eee568270ffbf2c1", func := "tripwire/tripwirelaw23.PulseFrames", spec := "pulseFrames", inPlace := ["slices.overlaps[tripwire/shelf.row[int, int]]"], unfollowed := true, recurses := true, apart := false }
def PulseFramesSaid : Prop := pulseFramesRow.holds Try.pinned (OpenSpec.ofChange pulseFramesSpec)

/-- ITS FALSE NEIGHBOUR: 'it returns false'. Refute it at one input. -/
def pulseFramesWrong : ChangeSpec := { name := "pulseFrames", fn := fun _ => fun
  | [d1, d2] => { results := [.lit (.bool false)], args := [d1, d2] }
  | _ => none }
def PulseFramesWrongFalsely : Prop := pulseFramesRow.holds Try.pinned (OpenSpec.ofChange pulseFramesWrong)

/-- 'tripwirelaw23.PulseMakes': WHATEVER THE INPUT: true; the input reads as it did. -/
def pulseMakesSpec : ChangeSpec := { name := "pulseMakes", fn := fun _ => fun
  | [d] => { results := [.lit (.bool true)], args := [d] }
  | _ => none }
def pulseMakesRow : OpenClaim := { program := "ytiodgiedbgjkhaa", sum := "18d3ac489142b10c8b9cf84e145d2f4c7db6b6cf85640880eee568270ffbf2c1", func := "tripwire/tripwirelaw23.PulseMakes", spec := "pulseMakes", inPlace := ["slices.overlaps[tripwire/shelf.row[int, int]]"], unfollowed := true, recurses := true, apart := false }
def PulseMakesSaid : Prop := pulseMakesRow.holds Try.pinned (OpenSpec.ofChange pulseMakesSpec)

/-- ITS FALSE NEIGHBOUR: 'it returns false'. Refute it at one input. -/
def pulseMakesWrong : ChangeSpec := { name := "pulseMakes", fn := fun _ => fun
  | [d] => { results := [.lit (.bool false)], args := [d] }
  | _ => none }
def PulseMakesWrongFalsely : Prop := pulseMakesRow.holds Try.pinned (OpenSpec.ofChange pulseMakesWrong)

/-- 'tripwirelaw22.BeatNone': WHATEVER THE INPUT: true; the input reads as it did. -/
def beatNoneSpec : ChangeSpec := { name := "beatNone", fn := fun _ => fun
  | [d1, d2, d3] => { results := [.lit (.bool true)], args := [d1, d2, d3] }
  | _ => none }
def beatNoneRow : OpenClaim := { program := "ytiodgiedbgjkhaa", sum := "18d3ac489142b10c8b9cf84e145d2f4c7db6b6cf85640880eee568270ffbf2c1", func := "tripwire/tripwirelaw22.BeatNone", spec := "beatNone", inPlace := ["slices.overlaps[tripwire/shelf.row[int, tripwire/beat.one]]", "slices.overlaps[tripwire/shelf.row[int, int]]"], unfollowed := true, recurses := true, apart := false }
def BeatNoneSaid : Prop := beatNoneRow.holds Try.pinned (OpenSpec.ofChange beatNoneSpec)

/-- ITS FALSE NEIGHBOUR: 'it returns false'. Refute it at one input. -/
def beatNoneWrong : ChangeSpec := { name := "beatNone", fn := fun _ => fun
  | [d1, d2, d3] => { results := [.lit (.bool false)], args := [d1, d2, d3] }
  | _ => none }
def BeatNoneWrongFalsely : Prop := beatNoneRow.holds Try.pinned (OpenSpec.ofChange beatNoneWrong)

/-- 'tripwirelaw22.BeatFrames': WHATEVER THE INPUT: true; the input reads as it did. -/
def beatFramesSpec : ChangeSpec := { name := "beatFrames", fn := fun _ => fun
  | [d1, d2, d3] => { results := [.lit (.bool true)], args := [d1, d2, d3] }
  | _ => none }
def beatFramesRow : OpenClaim := { program := "ytiodgiedbgjkhaa", sum := "18d3ac489142b10c8b9cf84e145d2f4c7db6b6cf85640880eee568270ffbf2c1", func := "tripwire/tripwirelaw22.BeatFrames", spec := "beatFrames", inPlace := ["slices.overlaps[tripwire/shelf.row[int, tripwire/beat.one]]", "slices.overlaps[tripwire/shelf.row[int, int]]"], apart := false }
def BeatFramesSaid : Prop := beatFramesRow.holds Try.pinned (OpenSpec.ofChange beatFramesSpec)

/-- ITS FALSE NEIGHBOUR: 'it returns false'. Refute it at one input. -/
def beatFramesWrong : ChangeSpec := { name := "beatFrames", fn := fun _ => fun
  | [d1, d2, d3] => { results := [.lit (.bool false)], args := [d1, d2, d3] }
  | _ => none }
def BeatFramesWrongFalsely : Prop := beatFramesRow.holds Try.pinned (OpenSpec.ofChange beatFramesWrong)

/-- 'tripwirelaw13.ValueRights': WHATEVER THE INPUT: true; the input reads as it did. -/
def valueRightsSpec : ChangeSpec := { name := "valueRights", fn := fun _ => fun
  | [d1, d2] => { results := [.lit (.bool true)], args := [d1, d2] }
  | _ => none }
def valueRightsRow : OpenClaim := { program := "ytiodgiedbgjkhaa", sum := "18d3ac489142b10c8b9cf84e145d2f4c7db6b6cf85640880eee568270ffbf2c1", func := "tripwire/tripwirelaw13.ValueRights", spec := "valueRights", apart := false }
def ValueRightsSaid : Prop := valueRightsRow.holds Try.pinned (OpenSpec.ofChange valueRightsSpec)

/-- ITS FALSE NEIGHBOUR: 'it returns false'. Refute it at one input. -/
def valueRightsWrong : ChangeSpec := { name := "valueRights", fn := fun _ => fun
  | [d1, d2] => { results := [.lit (.bool false)], args := [d1, d2] }
  | _ => none }
def ValueRightsWrongFalsely : Prop := valueRightsRow.holds Try.pinned (OpenSpec.ofChange valueRightsWrong)

/-- 'tripwirelaw13.ValueBytes': WHATEVER THE INPUT: true; the input reads as it did. -/
def valueBytesSpec : ChangeSpec := { name := "valueBytes", fn := fun _ => fun
  | [d1, d2] => { results := [.lit (.bool true)], args := [d1, d2] }
  | _ => none }
def valueBytesRow : OpenClaim := { program := "ytiodgiedbgjkhaa", sum := "18d3ac489142b10c8b9cf84e145d2f4c7db6b6cf85640880eee568270ffbf2c1", func := "tripwire/tripwirelaw13.ValueBytes", spec := "valueBytes", apart := false }
def ValueBytesSaid : Prop := valueBytesRow.holds Try.pinned (OpenSpec.ofChange valueBytesSpec)

/-- ITS FALSE NEIGHBOUR: 'it returns false'. Refute it at one input. -/
def valueBytesWrong : ChangeSpec := { name := "valueBytes", fn := fun _ => fun
  | [d1, d2] => { results := [.lit (.bool false)], args := [d1, d2] }
  | _ => none }
def ValueBytesWrongFalsely : Prop := valueBytesRow.holds Try.pinned (OpenSpec.ofChange valueBytesWrong)

/-- 'tripwirelaw13.ValueMays': WHATEVER THE INPUT: true; the input reads as it did. -/
def valueMaysSpec : ChangeSpec := { name := "valueMays", fn := fun _ => fun
  | [d] => { results := [.lit (.bool true)], args := [d] }
  | _ => none }
def valueMaysRow : OpenClaim := { program := "ytiodgiedbgjkhaa", sum := "18d3ac489142b10c8b9cf84e145d2f4c7db6b6cf85640880eee568270ffbf2c1", func := "tripwire/tripwirelaw13.ValueMays", spec := "valueMays", apart := false }
def ValueMaysSaid : Prop := valueMaysRow.holds Try.pinned (OpenSpec.ofChange valueMaysSpec)

/-- ITS FALSE NEIGHBOUR: 'it returns false'. Refute it at one input. -/
def valueMaysWrong : ChangeSpec := { name := "valueMays", fn := fun _ => fun
  | [d] => { results := [.lit (.bool false)], args := [d] }
  | _ => none }
def ValueMaysWrongFalsely : Prop := valueMaysRow.holds Try.pinned (OpenSpec.ofChange valueMaysWrong)

/-- 'tripwirelaw13.ValueFits': WHATEVER THE INPUT: true; the input reads as it did. -/
def valueFitsSpec : ChangeSpec := { name := "valueFits", fn := fun _ => fun
  | [d1, d2] => { results := [.lit (.bool true)], args := [d1, d2] }
  | _ => none }
def valueFitsRow : OpenClaim := { program := "ytiodgiedbgjkhaa", sum := "18d3ac489142b10c8b9cf84e145d2f4c7db6b6cf85640880eee568270ffbf2c1", func := "tripwire/tripwirelaw13.ValueFits", spec := "valueFits", apart := false }
def ValueFitsSaid : Prop := valueFitsRow.holds Try.pinned (OpenSpec.ofChange valueFitsSpec)

/-- ITS FALSE NEIGHBOUR: 'it returns false'. Refute it at one input. -/
def valueFitsWrong : ChangeSpec := { name := "valueFits", fn := fun _ => fun
  | [d1, d2] => { results := [.lit (.bool false)], args := [d1, d2] }
  | _ => none }
def ValueFitsWrongFalsely : Prop := valueFitsRow.holds Try.pinned (OpenSpec.ofChange valueFitsWrong)

/- THE SECOND FORM. 'bulk': how many values and letters a reading holds, each counted each time it is reached (what is shared counts as often as it is met; a slice's spare places count too). A statement '..UptoSaid' is the law's where the arguments, and the package variables that the reading takes, are together of bulk at most 1048576: NARROWER than '..Said'. Prove '..Said' where nothing that the law and all that it calls make is longer than what came in: it says more and counts as full. Else prove '..UptoSaid'. A law counts once. -/
mutual
def uptoBulk {H : Type} : DataW H → Nat
  | .lit (.string bytes) => bytes.length + 1
  | .lit _ => 1
  | .nil => 1
  | .ptr d => uptoBulk d + 1
  | .slice elems spare => uptoBulkAll elems + uptoBulkAll spare + 1
  | .agg parts => uptoBulkAll parts + 1
  | .iface _ d => uptoBulk d + 1
  | .map entries => uptoBulkEntries entries + 1
  | .held _ => 1
def uptoBulkAll {H : Type} : List (DataW H) → Nat
  | [] => 0
  | d :: r => uptoBulk d + uptoBulkAll r
def uptoBulkEntries {H : Type} : List (Lit × DataW H) → Nat
  | [] => 0
  | x :: r => uptoBulkEntry x + uptoBulkEntries r
def uptoBulkEntry {H : Type} : Lit × DataW H → Nat
  | (.string bytes, d) => bytes.length + uptoBulk d + 1
  | (_, d) => uptoBulk d + 1
 end
def uptoSmall : (H : Type) → List (DataW H) → Bool := fun _ ds => decide (uptoBulkAll ds ≤ 1048576)
def OpenSpec.upto (s : _root_.Go.ChangeSpec) : _root_.Go.OpenSpec := { _root_.Go.OpenSpec.ofChange s with cond := some uptoSmall }

/-- 'tripwirelaw12.TimerNone', WHERE WHAT IT READS IS OF BULK AT MOST 1048576: true; the input reads as it did. -/
def timerNoneUptoRow : OpenClaim := { program := "ytiodgiedbgjkhaa", sum := "18d3ac489142b10c8b9cf84e145d2f4c7db6b6cf85640880eee568270ffbf2c1", func := "tripwire/tripwirelaw12.TimerNone", spec := "timerNone", inPlace := ["slices.overlaps[tripwire/shelf.row[int, int]]", "slices.overlaps[tripwire/shelf.row[string, int]]"], unfollowed := true, recurses := true, apart := false, narrowed := true }
def TimerNoneUptoSaid : Prop := timerNoneUptoRow.holds Try.pinned (OpenSpec.upto timerNoneSpec)

/-- 'tripwirelaw12.TimerEvery', WHERE WHAT IT READS IS OF BULK AT MOST 1048576: true; the input reads as it did. -/
def timerEveryUptoRow : OpenClaim := { program := "ytiodgiedbgjkhaa", sum := "18d3ac489142b10c8b9cf84e145d2f4c7db6b6cf85640880eee568270ffbf2c1", func := "tripwire/tripwirelaw12.TimerEvery", spec := "timerEvery", inPlace := ["slices.overlaps[tripwire/shelf.row[string, int]]"], unfollowed := true, recurses := true, apart := false, narrowed := true }
def TimerEveryUptoSaid : Prop := timerEveryUptoRow.holds Try.pinned (OpenSpec.upto timerEverySpec)

/-- 'tripwirelaw09.MailboxNone', WHERE WHAT IT READS IS OF BULK AT MOST 1048576: true; the input reads as it did. -/
def mailboxNoneUptoRow : OpenClaim := { program := "ytiodgiedbgjkhaa", sum := "18d3ac489142b10c8b9cf84e145d2f4c7db6b6cf85640880eee568270ffbf2c1", func := "tripwire/tripwirelaw09.MailboxNone", spec := "mailboxNone", inPlace := ["slices.overlaps[tripwire/mailbox.letter]"], unfollowed := true, recurses := true, apart := false, narrowed := true }
def MailboxNoneUptoSaid : Prop := mailboxNoneUptoRow.holds Try.pinned (OpenSpec.upto mailboxNoneSpec)

/-- 'tripwirelaw09.MailboxParts', WHERE WHAT IT READS IS OF BULK AT MOST 1048576: true; the input reads as it did. -/
def mailboxPartsUptoRow : OpenClaim := { program := "ytiodgiedbgjkhaa", sum := "18d3ac489142b10c8b9cf84e145d2f4c7db6b6cf85640880eee568270ffbf2c1", func := "tripwire/tripwirelaw09.MailboxParts", spec := "mailboxParts", inPlace := ["slices.overlaps[tripwire/mailbox.letter]"], apart := false, narrowed := true }
def MailboxPartsUptoSaid : Prop := mailboxPartsUptoRow.holds Try.pinned (OpenSpec.upto mailboxPartsSpec)

/-- 'tripwirelaw23.PulseFrames', WHERE WHAT IT READS IS OF BULK AT MOST 1048576: true; the input reads as it did. -/
def pulseFramesUptoRow : OpenClaim := { program := "ytiodgiedbgjkhaa", sum := "18d3ac489142b10c8b9cf84e145d2f4c7db6b6cf85640880eee568270ffbf2c1", func := "tripwire/tripwirelaw23.PulseFrames", spec := "pulseFrames", inPlace := ["slices.overlaps[tripwire/shelf.row[int, int]]"], unfollowed := true, recurses := true, apart := false, narrowed := true }
def PulseFramesUptoSaid : Prop := pulseFramesUptoRow.holds Try.pinned (OpenSpec.upto pulseFramesSpec)

/-- 'tripwirelaw23.PulseMakes', WHERE WHAT IT READS IS OF BULK AT MOST 1048576: true; the input reads as it did. -/
def pulseMakesUptoRow : OpenClaim := { program := "ytiodgiedbgjkhaa", sum := "18d3ac489142b10c8b9cf84e145d2f4c7db6b6cf85640880eee568270ffbf2c1", func := "tripwire/tripwirelaw23.PulseMakes", spec := "pulseMakes", inPlace := ["slices.overlaps[tripwire/shelf.row[int, int]]"], unfollowed := true, recurses := true, apart := false, narrowed := true }
def PulseMakesUptoSaid : Prop := pulseMakesUptoRow.holds Try.pinned (OpenSpec.upto pulseMakesSpec)

/-- 'tripwirelaw22.BeatNone', WHERE WHAT IT READS IS OF BULK AT MOST 1048576: true; the input reads as it did. -/
def beatNoneUptoRow : OpenClaim := { program := "ytiodgiedbgjkhaa", sum := "18d3ac489142b10c8b9cf84e145d2f4c7db6b6cf85640880eee568270ffbf2c1", func := "tripwire/tripwirelaw22.BeatNone", spec := "beatNone", inPlace := ["slices.overlaps[tripwire/shelf.row[int, tripwire/beat.one]]", "slices.overlaps[tripwire/shelf.row[int, int]]"], unfollowed := true, recurses := true, apart := false, narrowed := true }
def BeatNoneUptoSaid : Prop := beatNoneUptoRow.holds Try.pinned (OpenSpec.upto beatNoneSpec)

/-- 'tripwirelaw22.BeatFrames', WHERE WHAT IT READS IS OF BULK AT MOST 1048576: true; the input reads as it did. -/
def beatFramesUptoRow : OpenClaim := { program := "ytiodgiedbgjkhaa", sum := "18d3ac489142b10c8b9cf84e145d2f4c7db6b6cf85640880eee568270ffbf2c1", func := "tripwire/tripwirelaw22.BeatFrames", spec := "beatFrames", inPlace := ["slices.overlaps[tripwire/shelf.row[int, tripwire/beat.one]]", "slices.overlaps[tripwire/shelf.row[int, int]]"], apart := false, narrowed := true }
def BeatFramesUptoSaid : Prop := beatFramesUptoRow.holds Try.pinned (OpenSpec.upto beatFramesSpec)

/-- 'tripwirelaw13.ValueRights', WHERE WHAT IT READS IS OF BULK AT MOST 1048576: true; the input reads as it did. -/
def valueRightsUptoRow : OpenClaim := { program := "ytiodgiedbgjkhaa", sum := "18d3ac489142b10c8b9cf84e145d2f4c7db6b6cf85640880eee568270ffbf2c1", func := "tripwire/tripwirelaw13.ValueRights", spec := "valueRights", apart := false, narrowed := true }
def ValueRightsUptoSaid : Prop := valueRightsUptoRow.holds Try.pinned (OpenSpec.upto valueRightsSpec)

/-- 'tripwirelaw13.ValueBytes', WHERE WHAT IT READS IS OF BULK AT MOST 1048576: true; the input reads as it did. -/
def valueBytesUptoRow : OpenClaim := { program := "ytiodgiedbgjkhaa", sum := "18d3ac489142b10c8b9cf84e145d2f4c7db6b6cf85640880eee568270ffbf2c1", func := "tripwire/tripwirelaw13.ValueBytes", spec := "valueBytes", apart := false, narrowed := true }
def ValueBytesUptoSaid : Prop := valueBytesUptoRow.holds Try.pinned (OpenSpec.upto valueBytesSpec)

/-- 'tripwirelaw13.ValueMays', WHERE WHAT IT READS IS OF BULK AT MOST 1048576: true; the input reads as it did. -/
def valueMaysUptoRow : OpenClaim := { program := "ytiodgiedbgjkhaa", sum := "18d3ac489142b10c8b9cf84e145d2f4c7db6b6cf85640880eee568270ffbf2c1", func := "tripwire/tripwirelaw13.ValueMays", spec := "valueMays", apart := false, narrowed := true }
def ValueMaysUptoSaid : Prop := valueMaysUptoRow.holds Try.pinned (OpenSpec.upto valueMaysSpec)

/-- 'tripwirelaw13.ValueFits', WHERE WHAT IT READS IS OF BULK AT MOST 1048576: true; the input reads as it did. -/
def valueFitsUptoRow : OpenClaim := { program := "ytiodgiedbgjkhaa", sum := "18d3ac489142b10c8b9cf84e145d2f4c7db6b6cf85640880eee568270ffbf2c1", func := "tripwire/tripwirelaw13.ValueFits", spec := "valueFits", apart := false, narrowed := true }
def ValueFitsUptoSaid : Prop := valueFitsUptoRow.holds Try.pinned (OpenSpec.upto valueFitsSpec)

end Rows
end Go.Proofs.Ytiodgiedbgjkhaa
