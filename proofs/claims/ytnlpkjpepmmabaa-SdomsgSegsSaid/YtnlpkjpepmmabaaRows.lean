/-
  No cell of these rows narrows 'for every input' (looked for: loops, veiled, ifaces, maps, wideKeys, modest, calm, conditions, laid).
  DERIVED. THE GIVEN ROWS OF THIS SEAT. 12 by the template 'for every input the law returns true; each argument reads behind the call as it read before'; 0 by the template 'total and deterministic' (their statements: YtnlpkjpepmmabaaTotals.lean).
  GIVEN WITH THE SEED: the statements are not yours to turn. If you find one false, say at which input.
  Laid BY PROGRAM, IN A SANDBOX (cutbox-rows.mjs): the forced cells as the released guide's own fill.sh prints them over the translation 148fe8634f375556… (all of the seat's roots in one cut). By AI agents, Wed Nov 11 2026. No macro, syntax, notation, axiom, sorry.
-/
import Derived.Test.YtnlpkjpepmmabaaChecked
import GoSem.Claim
import GoSem.ClaimJoined
import GoSem.ClaimMapViews
import Derived.JoinedTies
import Derived.KernelRfl
namespace Go.Proofs.Ytnlpkjpepmmabaa
/- THE CELL 'sum', in the pinned program and in every row, IS THE sha256 OF THE DUMP (.gsa) THAT YtnlpkjpepmmabaaProg.lean LOADS. Nothing in Lean hashes anything: it is a label: what it is worth is what the hold of that sum in a sandbox is worth. -/
noncomputable def Try.pinned : Pinned := { name := "ytnlpkjpepmmabaa", sum := "148fe8634f37555677cdb5426a70b46005678b2e8d20c64276b3ff3cc341725c", checked := Try.checked }
namespace Rows
def none {H : Type} : Left H := { results := [], args := [] }

/-- 'tripwirelaw10.ArbRounds': WHATEVER THE INPUT: true; the input reads as it did. -/
def arbRoundsSpec : ChangeSpec := { name := "arbRounds", fn := fun _ => fun
  | [d1, d2] => { results := [.lit (.bool true)], args := [d1, d2] }
  | _ => none }
def arbRoundsRow : OpenClaim := { program := "ytnlpkjpepmmabaa", sum := "148fe8634f37555677cdb5426a70b46005678b2e8d20c64276b3ff3cc341725c", func := "tripwire/tripwirelaw10.ArbRounds", spec := "arbRounds", unfollowed := true, recurses := true, apart := false }
def ArbRoundsSaid : Prop := arbRoundsRow.holds Try.pinned (OpenSpec.ofChange arbRoundsSpec)

/-- ITS FALSE NEIGHBOUR: 'it returns false'. Refute it at one input. -/
def arbRoundsWrong : ChangeSpec := { name := "arbRounds", fn := fun _ => fun
  | [d1, d2] => { results := [.lit (.bool false)], args := [d1, d2] }
  | _ => none }
def ArbRoundsWrongFalsely : Prop := arbRoundsRow.holds Try.pinned (OpenSpec.ofChange arbRoundsWrong)

/-- 'tripwirelaw10.ArbLeast': WHATEVER THE INPUT: true; the input reads as it did. -/
def arbLeastSpec : ChangeSpec := { name := "arbLeast", fn := fun _ => fun
  | [d] => { results := [.lit (.bool true)], args := [d] }
  | _ => none }
def arbLeastRow : OpenClaim := { program := "ytnlpkjpepmmabaa", sum := "148fe8634f37555677cdb5426a70b46005678b2e8d20c64276b3ff3cc341725c", func := "tripwire/tripwirelaw10.ArbLeast", spec := "arbLeast", unfollowed := true, recurses := true, apart := false }
def ArbLeastSaid : Prop := arbLeastRow.holds Try.pinned (OpenSpec.ofChange arbLeastSpec)

/-- ITS FALSE NEIGHBOUR: 'it returns false'. Refute it at one input. -/
def arbLeastWrong : ChangeSpec := { name := "arbLeast", fn := fun _ => fun
  | [d] => { results := [.lit (.bool false)], args := [d] }
  | _ => none }
def ArbLeastWrongFalsely : Prop := arbLeastRow.holds Try.pinned (OpenSpec.ofChange arbLeastWrong)

/-- 'tripwirelaw33.PortParts': WHATEVER THE INPUT: true; the input reads as it did. -/
def portPartsSpec : ChangeSpec := { name := "portParts", fn := fun _ => fun
  | [d1, d2] => { results := [.lit (.bool true)], args := [d1, d2] }
  | _ => none }
def portPartsRow : OpenClaim := { program := "ytnlpkjpepmmabaa", sum := "148fe8634f37555677cdb5426a70b46005678b2e8d20c64276b3ff3cc341725c", func := "tripwire/tripwirelaw33.PortParts", spec := "portParts", unfollowed := true, recurses := true, apart := false }
def PortPartsSaid : Prop := portPartsRow.holds Try.pinned (OpenSpec.ofChange portPartsSpec)

/-- ITS FALSE NEIGHBOUR: 'it returns false'. Refute it at one input. -/
def portPartsWrong : ChangeSpec := { name := "portParts", fn := fun _ => fun
  | [d1, d2] => { results := [.lit (.bool false)], args := [d1, d2] }
  | _ => none }
def PortPartsWrongFalsely : Prop := portPartsRow.holds Try.pinned (OpenSpec.ofChange portPartsWrong)

/-- 'tripwirelaw11.GateFaults': WHATEVER THE INPUT: true; the input reads as it did. -/
def gateFaultsSpec : ChangeSpec := { name := "gateFaults", fn := fun _ => fun
  | [d1, d2] => { results := [.lit (.bool true)], args := [d1, d2] }
  | _ => none }
def gateFaultsRow : OpenClaim := { program := "ytnlpkjpepmmabaa", sum := "148fe8634f37555677cdb5426a70b46005678b2e8d20c64276b3ff3cc341725c", func := "tripwire/tripwirelaw11.GateFaults", spec := "gateFaults", unfollowed := true, recurses := true, apart := false }
def GateFaultsSaid : Prop := gateFaultsRow.holds Try.pinned (OpenSpec.ofChange gateFaultsSpec)

/-- ITS FALSE NEIGHBOUR: 'it returns false'. Refute it at one input. -/
def gateFaultsWrong : ChangeSpec := { name := "gateFaults", fn := fun _ => fun
  | [d1, d2] => { results := [.lit (.bool false)], args := [d1, d2] }
  | _ => none }
def GateFaultsWrongFalsely : Prop := gateFaultsRow.holds Try.pinned (OpenSpec.ofChange gateFaultsWrong)

/-- 'tripwirelaw17.SdomsgEncodes': WHATEVER THE INPUT: true; the input reads as it did. -/
def sdomsgEncodesSpec : ChangeSpec := { name := "sdomsgEncodes", fn := fun _ => fun
  | [d] => { results := [.lit (.bool true)], args := [d] }
  | _ => none }
def sdomsgEncodesRow : OpenClaim := { program := "ytnlpkjpepmmabaa", sum := "148fe8634f37555677cdb5426a70b46005678b2e8d20c64276b3ff3cc341725c", func := "tripwire/tripwirelaw17.SdomsgEncodes", spec := "sdomsgEncodes", apart := false }
def SdomsgEncodesSaid : Prop := sdomsgEncodesRow.holds Try.pinned (OpenSpec.ofChange sdomsgEncodesSpec)

/-- ITS FALSE NEIGHBOUR: 'it returns false'. Refute it at one input. -/
def sdomsgEncodesWrong : ChangeSpec := { name := "sdomsgEncodes", fn := fun _ => fun
  | [d] => { results := [.lit (.bool false)], args := [d] }
  | _ => none }
def SdomsgEncodesWrongFalsely : Prop := sdomsgEncodesRow.holds Try.pinned (OpenSpec.ofChange sdomsgEncodesWrong)

/-- 'tripwirelaw17.SdomsgSegs': WHATEVER THE INPUT: true; the input reads as it did. -/
def sdomsgSegsSpec : ChangeSpec := { name := "sdomsgSegs", fn := fun _ => fun
  | [d1, d2, d3, d4, d5, d6] => { results := [.lit (.bool true)], args := [d1, d2, d3, d4, d5, d6] }
  | _ => none }
def sdomsgSegsRow : OpenClaim := { program := "ytnlpkjpepmmabaa", sum := "148fe8634f37555677cdb5426a70b46005678b2e8d20c64276b3ff3cc341725c", func := "tripwire/tripwirelaw17.SdomsgSegs", spec := "sdomsgSegs", apart := false }
def SdomsgSegsSaid : Prop := sdomsgSegsRow.holds Try.pinned (OpenSpec.ofChange sdomsgSegsSpec)

/-- ITS FALSE NEIGHBOUR: 'it returns false'. Refute it at one input. -/
def sdomsgSegsWrong : ChangeSpec := { name := "sdomsgSegs", fn := fun _ => fun
  | [d1, d2, d3, d4, d5, d6] => { results := [.lit (.bool false)], args := [d1, d2, d3, d4, d5, d6] }
  | _ => none }
def SdomsgSegsWrongFalsely : Prop := sdomsgSegsRow.holds Try.pinned (OpenSpec.ofChange sdomsgSegsWrong)

/-- 'tripwirelaw17.SdomsgDecodes': WHATEVER THE INPUT: true; the input reads as it did. -/
def sdomsgDecodesSpec : ChangeSpec := { name := "sdomsgDecodes", fn := fun _ => fun
  | [d1, d2] => { results := [.lit (.bool true)], args := [d1, d2] }
  | _ => none }
def sdomsgDecodesRow : OpenClaim := { program := "ytnlpkjpepmmabaa", sum := "148fe8634f37555677cdb5426a70b46005678b2e8d20c64276b3ff3cc341725c", func := "tripwire/tripwirelaw17.SdomsgDecodes", spec := "sdomsgDecodes", apart := false }
def SdomsgDecodesSaid : Prop := sdomsgDecodesRow.holds Try.pinned (OpenSpec.ofChange sdomsgDecodesSpec)

/-- ITS FALSE NEIGHBOUR: 'it returns false'. Refute it at one input. -/
def sdomsgDecodesWrong : ChangeSpec := { name := "sdomsgDecodes", fn := fun _ => fun
  | [d1, d2] => { results := [.lit (.bool false)], args := [d1, d2] }
  | _ => none }
def SdomsgDecodesWrongFalsely : Prop := sdomsgDecodesRow.holds Try.pinned (OpenSpec.ofChange sdomsgDecodesWrong)

/-- 'tripwirelaw17.SdomsgBack': WHATEVER THE INPUT: true; the input reads as it did. -/
def sdomsgBackSpec : ChangeSpec := { name := "sdomsgBack", fn := fun _ => fun
  | [d1, d2, d3] => { results := [.lit (.bool true)], args := [d1, d2, d3] }
  | _ => none }
def sdomsgBackRow : OpenClaim := { program := "ytnlpkjpepmmabaa", sum := "148fe8634f37555677cdb5426a70b46005678b2e8d20c64276b3ff3cc341725c", func := "tripwire/tripwirelaw17.SdomsgBack", spec := "sdomsgBack", apart := false }
def SdomsgBackSaid : Prop := sdomsgBackRow.holds Try.pinned (OpenSpec.ofChange sdomsgBackSpec)

/-- ITS FALSE NEIGHBOUR: 'it returns false'. Refute it at one input. -/
def sdomsgBackWrong : ChangeSpec := { name := "sdomsgBack", fn := fun _ => fun
  | [d1, d2, d3] => { results := [.lit (.bool false)], args := [d1, d2, d3] }
  | _ => none }
def SdomsgBackWrongFalsely : Prop := sdomsgBackRow.holds Try.pinned (OpenSpec.ofChange sdomsgBackWrong)

/-- 'tripwirelaw24.EmcyOnce': WHATEVER THE INPUT: true; the input reads as it did. -/
def emcyOnceSpec : ChangeSpec := { name := "emcyOnce", fn := fun _ => fun
  | [d] => { results := [.lit (.bool true)], args := [d] }
  | _ => none }
def emcyOnceRow : OpenClaim := { program := "ytnlpkjpepmmabaa", sum := "148fe8634f37555677cdb5426a70b46005678b2e8d20c64276b3ff3cc341725c", func := "tripwire/tripwirelaw24.EmcyOnce", spec := "emcyOnce", unfollowed := true, recurses := true, apart := false }
def EmcyOnceSaid : Prop := emcyOnceRow.holds Try.pinned (OpenSpec.ofChange emcyOnceSpec)

/-- ITS FALSE NEIGHBOUR: 'it returns false'. Refute it at one input. -/
def emcyOnceWrong : ChangeSpec := { name := "emcyOnce", fn := fun _ => fun
  | [d] => { results := [.lit (.bool false)], args := [d] }
  | _ => none }
def EmcyOnceWrongFalsely : Prop := emcyOnceRow.holds Try.pinned (OpenSpec.ofChange emcyOnceWrong)

/-- 'tripwirelaw24.EmcyFrames': WHATEVER THE INPUT: true; the input reads as it did. -/
def emcyFramesSpec : ChangeSpec := { name := "emcyFrames", fn := fun _ => fun
  | [d1, d2] => { results := [.lit (.bool true)], args := [d1, d2] }
  | _ => none }
def emcyFramesRow : OpenClaim := { program := "ytnlpkjpepmmabaa", sum := "148fe8634f37555677cdb5426a70b46005678b2e8d20c64276b3ff3cc341725c", func := "tripwire/tripwirelaw24.EmcyFrames", spec := "emcyFrames", unfollowed := true, recurses := true, apart := false }
def EmcyFramesSaid : Prop := emcyFramesRow.holds Try.pinned (OpenSpec.ofChange emcyFramesSpec)

/-- ITS FALSE NEIGHBOUR: 'it returns false'. Refute it at one input. -/
def emcyFramesWrong : ChangeSpec := { name := "emcyFrames", fn := fun _ => fun
  | [d1, d2] => { results := [.lit (.bool false)], args := [d1, d2] }
  | _ => none }
def EmcyFramesWrongFalsely : Prop := emcyFramesRow.holds Try.pinned (OpenSpec.ofChange emcyFramesWrong)

/-- 'tripwirelaw06.FilterPacks': WHATEVER THE INPUT: true; the input reads as it did. -/
def filterPacksSpec : ChangeSpec := { name := "filterPacks", fn := fun _ => fun
  | [d] => { results := [.lit (.bool true)], args := [d] }
  | _ => none }
def filterPacksRow : OpenClaim := { program := "ytnlpkjpepmmabaa", sum := "148fe8634f37555677cdb5426a70b46005678b2e8d20c64276b3ff3cc341725c", func := "tripwire/tripwirelaw06.FilterPacks", spec := "filterPacks", unfollowed := true, recurses := true, apart := false }
def FilterPacksSaid : Prop := filterPacksRow.holds Try.pinned (OpenSpec.ofChange filterPacksSpec)

/-- ITS FALSE NEIGHBOUR: 'it returns false'. Refute it at one input. -/
def filterPacksWrong : ChangeSpec := { name := "filterPacks", fn := fun _ => fun
  | [d] => { results := [.lit (.bool false)], args := [d] }
  | _ => none }
def FilterPacksWrongFalsely : Prop := filterPacksRow.holds Try.pinned (OpenSpec.ofChange filterPacksWrong)

/-- 'tripwirelaw06.FilterMeets': WHATEVER THE INPUT: true; the input reads as it did. -/
def filterMeetsSpec : ChangeSpec := { name := "filterMeets", fn := fun _ => fun
  | [d1, d2] => { results := [.lit (.bool true)], args := [d1, d2] }
  | _ => none }
def filterMeetsRow : OpenClaim := { program := "ytnlpkjpepmmabaa", sum := "148fe8634f37555677cdb5426a70b46005678b2e8d20c64276b3ff3cc341725c", func := "tripwire/tripwirelaw06.FilterMeets", spec := "filterMeets", unfollowed := true, recurses := true, apart := false }
def FilterMeetsSaid : Prop := filterMeetsRow.holds Try.pinned (OpenSpec.ofChange filterMeetsSpec)

/-- ITS FALSE NEIGHBOUR: 'it returns false'. Refute it at one input. -/
def filterMeetsWrong : ChangeSpec := { name := "filterMeets", fn := fun _ => fun
  | [d1, d2] => { results := [.lit (.bool false)], args := [d1, d2] }
  | _ => none }
def FilterMeetsWrongFalsely : Prop := filterMeetsRow.holds Try.pinned (OpenSpec.ofChange filterMeetsWrong)

/- THE SECOND FORM. 'bulk': how many values and letters a reading holds, each counted each time it is reached (what is shared counts as often as it is met; a slice's spare places count too). A statement '..UptoSaid' is the law's where the arguments, and the package variables that the reading takes, are together of bulk at most 1048576: NARROWER than '..Said'. Prove '..Said' where nothing that the law and all that it calls make is longer than what came in: it says more and counts as full. Else prove '..UptoSaid'. A law counts once. -/
mutual
def uptoBulk {H : Type} : DataW H → Nat
  | .lit (.string bytes) => bytes.length + 1
  | .lit _ => 1
  | .nil => 1
  | .ptr d => uptoBulk d + 1
  | .slice elems spare => uptoBulkAll elems + uptoBulkAll spare + 1
  | .agg parts => uptoBulkAll parts + 1
  | .iface _ d => uptoBulk d + 1
  | .map entries => uptoBulkEntries entries + 1
  | .held _ => 1
def uptoBulkAll {H : Type} : List (DataW H) → Nat
  | [] => 0
  | d :: r => uptoBulk d + uptoBulkAll r
def uptoBulkEntries {H : Type} : List (Lit × DataW H) → Nat
  | [] => 0
  | x :: r => uptoBulkEntry x + uptoBulkEntries r
def uptoBulkEntry {H : Type} : Lit × DataW H → Nat
  | (.string bytes, d) => bytes.length + uptoBulk d + 1
  | (_, d) => uptoBulk d + 1
 end
def uptoSmall : (H : Type) → List (DataW H) → Bool := fun _ ds => decide (uptoBulkAll ds ≤ 1048576)
def OpenSpec.upto (s : _root_.Go.ChangeSpec) : _root_.Go.OpenSpec := { _root_.Go.OpenSpec.ofChange s with cond := some uptoSmall }

/-- 'tripwirelaw10.ArbRounds', WHERE WHAT IT READS IS OF BULK AT MOST 1048576: true; the input reads as it did. -/
def arbRoundsUptoRow : OpenClaim := { program := "ytnlpkjpepmmabaa", sum := "148fe8634f37555677cdb5426a70b46005678b2e8d20c64276b3ff3cc341725c", func := "tripwire/tripwirelaw10.ArbRounds", spec := "arbRounds", unfollowed := true, recurses := true, apart := false, narrowed := true }
def ArbRoundsUptoSaid : Prop := arbRoundsUptoRow.holds Try.pinned (OpenSpec.upto arbRoundsSpec)

/-- 'tripwirelaw10.ArbLeast', WHERE WHAT IT READS IS OF BULK AT MOST 1048576: true; the input reads as it did. -/
def arbLeastUptoRow : OpenClaim := { program := "ytnlpkjpepmmabaa", sum := "148fe8634f37555677cdb5426a70b46005678b2e8d20c64276b3ff3cc341725c", func := "tripwire/tripwirelaw10.ArbLeast", spec := "arbLeast", unfollowed := true, recurses := true, apart := false, narrowed := true }
def ArbLeastUptoSaid : Prop := arbLeastUptoRow.holds Try.pinned (OpenSpec.upto arbLeastSpec)

/-- 'tripwirelaw33.PortParts', WHERE WHAT IT READS IS OF BULK AT MOST 1048576: true; the input reads as it did. -/
def portPartsUptoRow : OpenClaim := { program := "ytnlpkjpepmmabaa", sum := "148fe8634f37555677cdb5426a70b46005678b2e8d20c64276b3ff3cc341725c", func := "tripwire/tripwirelaw33.PortParts", spec := "portParts", unfollowed := true, recurses := true, apart := false, narrowed := true }
def PortPartsUptoSaid : Prop := portPartsUptoRow.holds Try.pinned (OpenSpec.upto portPartsSpec)

/-- 'tripwirelaw11.GateFaults', WHERE WHAT IT READS IS OF BULK AT MOST 1048576: true; the input reads as it did. -/
def gateFaultsUptoRow : OpenClaim := { program := "ytnlpkjpepmmabaa", sum := "148fe8634f37555677cdb5426a70b46005678b2e8d20c64276b3ff3cc341725c", func := "tripwire/tripwirelaw11.GateFaults", spec := "gateFaults", unfollowed := true, recurses := true, apart := false, narrowed := true }
def GateFaultsUptoSaid : Prop := gateFaultsUptoRow.holds Try.pinned (OpenSpec.upto gateFaultsSpec)

/-- 'tripwirelaw17.SdomsgEncodes', WHERE WHAT IT READS IS OF BULK AT MOST 1048576: true; the input reads as it did. -/
def sdomsgEncodesUptoRow : OpenClaim := { program := "ytnlpkjpepmmabaa", sum := "148fe8634f37555677cdb5426a70b46005678b2e8d20c64276b3ff3cc341725c", func := "tripwire/tripwirelaw17.SdomsgEncodes", spec := "sdomsgEncodes", apart := false, narrowed := true }
def SdomsgEncodesUptoSaid : Prop := sdomsgEncodesUptoRow.holds Try.pinned (OpenSpec.upto sdomsgEncodesSpec)

/-- 'tripwirelaw17.SdomsgSegs', WHERE WHAT IT READS IS OF BULK AT MOST 1048576: true; the input reads as it did. -/
def sdomsgSegsUptoRow : OpenClaim := { program := "ytnlpkjpepmmabaa", sum := "148fe8634f37555677cdb5426a70b46005678b2e8d20c64276b3ff3cc341725c", func := "tripwire/tripwirelaw17.SdomsgSegs", spec := "sdomsgSegs", apart := false, narrowed := true }
def SdomsgSegsUptoSaid : Prop := sdomsgSegsUptoRow.holds Try.pinned (OpenSpec.upto sdomsgSegsSpec)

/-- 'tripwirelaw17.SdomsgDecodes', WHERE WHAT IT READS IS OF BULK AT MOST 1048576: true; the input reads as it did. -/
def sdomsgDecodesUptoRow : OpenClaim := { program := "ytnlpkjpepmmabaa", sum := "148fe8634f37555677cdb5426a70b46005678b2e8d20c64276b3ff3cc341725c", func := "tripwire/tripwirelaw17.SdomsgDecodes", spec := "sdomsgDecodes", apart := false, narrowed := true }
def SdomsgDecodesUptoSaid : Prop := sdomsgDecodesUptoRow.holds Try.pinned (OpenSpec.upto sdomsgDecodesSpec)

/-- 'tripwirelaw17.SdomsgBack', WHERE WHAT IT READS IS OF BULK AT MOST 1048576: true; the input reads as it did. -/
def sdomsgBackUptoRow : OpenClaim := { program := "ytnlpkjpepmmabaa", sum := "148fe8634f37555677cdb5426a70b46005678b2e8d20c64276b3ff3cc341725c", func := "tripwire/tripwirelaw17.SdomsgBack", spec := "sdomsgBack", apart := false, narrowed := true }
def SdomsgBackUptoSaid : Prop := sdomsgBackUptoRow.holds Try.pinned (OpenSpec.upto sdomsgBackSpec)

/-- 'tripwirelaw24.EmcyOnce', WHERE WHAT IT READS IS OF BULK AT MOST 1048576: true; the input reads as it did. -/
def emcyOnceUptoRow : OpenClaim := { program := "ytnlpkjpepmmabaa", sum := "148fe8634f37555677cdb5426a70b46005678b2e8d20c64276b3ff3cc341725c", func := "tripwire/tripwirelaw24.EmcyOnce", spec := "emcyOnce", unfollowed := true, recurses := true, apart := false, narrowed := true }
def EmcyOnceUptoSaid : Prop := emcyOnceUptoRow.holds Try.pinned (OpenSpec.upto emcyOnceSpec)

/-- 'tripwirelaw24.EmcyFrames', WHERE WHAT IT READS IS OF BULK AT MOST 1048576: true; the input reads as it did. -/
def emcyFramesUptoRow : OpenClaim := { program := "ytnlpkjpepmmabaa", sum := "148fe8634f37555677cdb5426a70b46005678b2e8d20c64276b3ff3cc341725c", func := "tripwire/tripwirelaw24.EmcyFrames", spec := "emcyFrames", unfollowed := true, recurses := true, apart := false, narrowed := true }
def EmcyFramesUptoSaid : Prop := emcyFramesUptoRow.holds Try.pinned (OpenSpec.upto emcyFramesSpec)

/-- 'tripwirelaw06.FilterPacks', WHERE WHAT IT READS IS OF BULK AT MOST 1048576: true; the input reads as it did. -/
def filterPacksUptoRow : OpenClaim := { program := "ytnlpkjpepmmabaa", sum := "148fe8634f37555677cdb5426a70b46005678b2e8d20c64276b3ff3cc341725c", func := "tripwire/tripwirelaw06.FilterPacks", spec := "filterPacks", unfollowed := true, recurses := true, apart := false, narrowed := true }
def FilterPacksUptoSaid : Prop := filterPacksUptoRow.holds Try.pinned (OpenSpec.upto filterPacksSpec)

/-- 'tripwirelaw06.FilterMeets', WHERE WHAT IT READS IS OF BULK AT MOST 1048576: true; the input reads as it did. -/
def filterMeetsUptoRow : OpenClaim := { program := "ytnlpkjpepmmabaa", sum := "148fe8634f37555677cdb5426a70b46005678b2e8d20c64276b3ff3cc341725c", func := "tripwire/tripwirelaw06.FilterMeets", spec := "filterMeets", unfollowed := true, recurses := true, apart := false, narrowed := true }
def FilterMeetsUptoSaid : Prop := filterMeetsUptoRow.holds Try.pinned (OpenSpec.upto filterMeetsSpec)

end Rows
end Go.Proofs.Ytnlpkjpepmmabaa
