/-
  No cell of these rows narrows 'for every input' (looked for: loops, veiled, ifaces, maps, wideKeys, modest, calm, conditions, laid).
  DERIVED. THE GIVEN ROWS OF THIS SEAT. 12 by the template 'for every input the law returns true; each argument reads behind the call as it read before'; 0 by the template 'total and deterministic' (their statements: YtbdkiadhaencnaaTotals.lean).
  GIVEN WITH THE SEED: the statements are not yours to turn. If you find one false, say at which input.
  Laid BY PROGRAM, IN A SANDBOX (cutbox-rows.mjs): the forced cells as the released guide's own fill.sh prints them over the translation f7885e94251c33fe… (all of the seat's roots in one cut). By AI agents, Wed Nov 11 2026. No macro, syntax, notation, axiom, sorry.
-/
import Derived.Test.YtbdkiadhaencnaaChecked
import GoSem.Claim
import GoSem.ClaimJoined
import GoSem.ClaimMapViews
import Derived.JoinedTies
import Derived.KernelRfl
namespace Go.Proofs.Ytbdkiadhaencnaa
/- THE CELL 'sum', in the pinned program and in every row, IS THE sha256 OF THE DUMP (.gsa) THAT YtbdkiadhaencnaaProg.lean LOADS. Nothing in Lean hashes anything: it is a label: what it is worth is what the hold of that sum in a sandbox is worth. -/
noncomputable def Try.pinned : Pinned := { name := "ytbdkiadhaencnaa", sum := "f7885e94251c33fe3dab23854ade9a8cdf16ea55a34736945718f6aeb2726772", checked := Try.checked }
namespace Rows
def none {H : Type} : Left H := { results := [], args := [] }

/-- 'tripwirelaw39.WaitWorst': WHATEVER THE INPUT: true; the input reads as it did. -/
def waitWorstSpec : ChangeSpec := { name := "waitWorst", fn := fun _ => fun
  | [d1, d2] => { results := [.lit (.bool true)], args := [d1, d2] }
  | _ => none }
def waitWorstRow : OpenClaim := { program := "ytbdkiadhaencnaa", sum := "f7885e94251c33fe3dab23854ade9a8cdf16ea55a34736945718f6aeb2726772", func := "tripwire/tripwirelaw39.WaitWorst", spec := "waitWorst", unfollowed := true, recurses := true, apart := false }
def WaitWorstSaid : Prop := waitWorstRow.holds Try.pinned (OpenSpec.ofChange waitWorstSpec)

/-- ITS FALSE NEIGHBOUR: 'it returns false'. Refute it at one input. -/
def waitWorstWrong : ChangeSpec := { name := "waitWorst", fn := fun _ => fun
  | [d1, d2] => { results := [.lit (.bool false)], args := [d1, d2] }
  | _ => none }
def WaitWorstWrongFalsely : Prop := waitWorstRow.holds Try.pinned (OpenSpec.ofChange waitWorstWrong)

/-- 'tripwirelaw39.WaitAll': WHATEVER THE INPUT: true; the input reads as it did. -/
def waitAllSpec : ChangeSpec := { name := "waitAll", fn := fun _ => fun
  | [d1, d2] => { results := [.lit (.bool true)], args := [d1, d2] }
  | _ => none }
def waitAllRow : OpenClaim := { program := "ytbdkiadhaencnaa", sum := "f7885e94251c33fe3dab23854ade9a8cdf16ea55a34736945718f6aeb2726772", func := "tripwire/tripwirelaw39.WaitAll", spec := "waitAll", unfollowed := true, recurses := true, apart := false }
def WaitAllSaid : Prop := waitAllRow.holds Try.pinned (OpenSpec.ofChange waitAllSpec)

/-- ITS FALSE NEIGHBOUR: 'it returns false'. Refute it at one input. -/
def waitAllWrong : ChangeSpec := { name := "waitAll", fn := fun _ => fun
  | [d1, d2] => { results := [.lit (.bool false)], args := [d1, d2] }
  | _ => none }
def WaitAllWrongFalsely : Prop := waitAllRow.holds Try.pinned (OpenSpec.ofChange waitAllWrong)

/-- 'tripwirelaw02.WordPuts': WHATEVER THE INPUT: true; the input reads as it did. -/
def wordPutsSpec : ChangeSpec := { name := "wordPuts", fn := fun _ => fun
  | [d1, d2] => { results := [.lit (.bool true)], args := [d1, d2] }
  | _ => none }
def wordPutsRow : OpenClaim := { program := "ytbdkiadhaencnaa", sum := "f7885e94251c33fe3dab23854ade9a8cdf16ea55a34736945718f6aeb2726772", func := "tripwire/tripwirelaw02.WordPuts", spec := "wordPuts", apart := false }
def WordPutsSaid : Prop := wordPutsRow.holds Try.pinned (OpenSpec.ofChange wordPutsSpec)

/-- ITS FALSE NEIGHBOUR: 'it returns false'. Refute it at one input. -/
def wordPutsWrong : ChangeSpec := { name := "wordPuts", fn := fun _ => fun
  | [d1, d2] => { results := [.lit (.bool false)], args := [d1, d2] }
  | _ => none }
def WordPutsWrongFalsely : Prop := wordPutsRow.holds Try.pinned (OpenSpec.ofChange wordPutsWrong)

/-- 'tripwirelaw02.WordGets': WHATEVER THE INPUT: true; the input reads as it did. -/
def wordGetsSpec : ChangeSpec := { name := "wordGets", fn := fun _ => fun
  | [d1, d2] => { results := [.lit (.bool true)], args := [d1, d2] }
  | _ => none }
def wordGetsRow : OpenClaim := { program := "ytbdkiadhaencnaa", sum := "f7885e94251c33fe3dab23854ade9a8cdf16ea55a34736945718f6aeb2726772", func := "tripwire/tripwirelaw02.WordGets", spec := "wordGets", apart := false }
def WordGetsSaid : Prop := wordGetsRow.holds Try.pinned (OpenSpec.ofChange wordGetsSpec)

/-- ITS FALSE NEIGHBOUR: 'it returns false'. Refute it at one input. -/
def wordGetsWrong : ChangeSpec := { name := "wordGets", fn := fun _ => fun
  | [d1, d2] => { results := [.lit (.bool false)], args := [d1, d2] }
  | _ => none }
def WordGetsWrongFalsely : Prop := wordGetsRow.holds Try.pinned (OpenSpec.ofChange wordGetsWrong)

/-- 'tripwirelaw02.WordBack': WHATEVER THE INPUT: true; the input reads as it did. -/
def wordBackSpec : ChangeSpec := { name := "wordBack", fn := fun _ => fun
  | [d1, d2, d3] => { results := [.lit (.bool true)], args := [d1, d2, d3] }
  | _ => none }
def wordBackRow : OpenClaim := { program := "ytbdkiadhaencnaa", sum := "f7885e94251c33fe3dab23854ade9a8cdf16ea55a34736945718f6aeb2726772", func := "tripwire/tripwirelaw02.WordBack", spec := "wordBack", apart := false }
def WordBackSaid : Prop := wordBackRow.holds Try.pinned (OpenSpec.ofChange wordBackSpec)

/-- ITS FALSE NEIGHBOUR: 'it returns false'. Refute it at one input. -/
def wordBackWrong : ChangeSpec := { name := "wordBack", fn := fun _ => fun
  | [d1, d2, d3] => { results := [.lit (.bool false)], args := [d1, d2, d3] }
  | _ => none }
def WordBackWrongFalsely : Prop := wordBackRow.holds Try.pinned (OpenSpec.ofChange wordBackWrong)

/-- 'tripwirelaw02.WordFlips': WHATEVER THE INPUT: true; the input reads as it did. -/
def wordFlipsSpec : ChangeSpec := { name := "wordFlips", fn := fun _ => fun
  | [d] => { results := [.lit (.bool true)], args := [d] }
  | _ => none }
def wordFlipsRow : OpenClaim := { program := "ytbdkiadhaencnaa", sum := "f7885e94251c33fe3dab23854ade9a8cdf16ea55a34736945718f6aeb2726772", func := "tripwire/tripwirelaw02.WordFlips", spec := "wordFlips", apart := false }
def WordFlipsSaid : Prop := wordFlipsRow.holds Try.pinned (OpenSpec.ofChange wordFlipsSpec)

/-- ITS FALSE NEIGHBOUR: 'it returns false'. Refute it at one input. -/
def wordFlipsWrong : ChangeSpec := { name := "wordFlips", fn := fun _ => fun
  | [d] => { results := [.lit (.bool false)], args := [d] }
  | _ => none }
def WordFlipsWrongFalsely : Prop := wordFlipsRow.holds Try.pinned (OpenSpec.ofChange wordFlipsWrong)

/-- 'tripwirelaw02.WordReads': WHATEVER THE INPUT: true; the input reads as it did. -/
def wordReadsSpec : ChangeSpec := { name := "wordReads", fn := fun _ => fun
  | [d1, d2] => { results := [.lit (.bool true)], args := [d1, d2] }
  | _ => none }
def wordReadsRow : OpenClaim := { program := "ytbdkiadhaencnaa", sum := "f7885e94251c33fe3dab23854ade9a8cdf16ea55a34736945718f6aeb2726772", func := "tripwire/tripwirelaw02.WordReads", spec := "wordReads", apart := false }
def WordReadsSaid : Prop := wordReadsRow.holds Try.pinned (OpenSpec.ofChange wordReadsSpec)

/-- ITS FALSE NEIGHBOUR: 'it returns false'. Refute it at one input. -/
def wordReadsWrong : ChangeSpec := { name := "wordReads", fn := fun _ => fun
  | [d1, d2] => { results := [.lit (.bool false)], args := [d1, d2] }
  | _ => none }
def WordReadsWrongFalsely : Prop := wordReadsRow.holds Try.pinned (OpenSpec.ofChange wordReadsWrong)

/-- 'tripwirelaw02.WordWrites': WHATEVER THE INPUT: true; the input reads as it did. -/
def wordWritesSpec : ChangeSpec := { name := "wordWrites", fn := fun _ => fun
  | [d] => { results := [.lit (.bool true)], args := [d] }
  | _ => none }
def wordWritesRow : OpenClaim := { program := "ytbdkiadhaencnaa", sum := "f7885e94251c33fe3dab23854ade9a8cdf16ea55a34736945718f6aeb2726772", func := "tripwire/tripwirelaw02.WordWrites", spec := "wordWrites", apart := false }
def WordWritesSaid : Prop := wordWritesRow.holds Try.pinned (OpenSpec.ofChange wordWritesSpec)

/-- ITS FALSE NEIGHBOUR: 'it returns false'. Refute it at one input. -/
def wordWritesWrong : ChangeSpec := { name := "wordWrites", fn := fun _ => fun
  | [d] => { results := [.lit (.bool false)], args := [d] }
  | _ => none }
def WordWritesWrongFalsely : Prop := wordWritesRow.holds Try.pinned (OpenSpec.ofChange wordWritesWrong)

/-- 'tripwirelaw07.FifoOrder': WHATEVER THE INPUT: true; the input reads as it did. -/
def fifoOrderSpec : ChangeSpec := { name := "fifoOrder", fn := fun _ => fun
  | [d1, d2, d3] => { results := [.lit (.bool true)], args := [d1, d2, d3] }
  | _ => none }
def fifoOrderRow : OpenClaim := { program := "ytbdkiadhaencnaa", sum := "f7885e94251c33fe3dab23854ade9a8cdf16ea55a34736945718f6aeb2726772", func := "tripwire/tripwirelaw07.FifoOrder", spec := "fifoOrder", apart := false }
def FifoOrderSaid : Prop := fifoOrderRow.holds Try.pinned (OpenSpec.ofChange fifoOrderSpec)

/-- ITS FALSE NEIGHBOUR: 'it returns false'. Refute it at one input. -/
def fifoOrderWrong : ChangeSpec := { name := "fifoOrder", fn := fun _ => fun
  | [d1, d2, d3] => { results := [.lit (.bool false)], args := [d1, d2, d3] }
  | _ => none }
def FifoOrderWrongFalsely : Prop := fifoOrderRow.holds Try.pinned (OpenSpec.ofChange fifoOrderWrong)

/-- 'tripwirelaw07.FifoTexts': WHATEVER THE INPUT: true; the input reads as it did. -/
def fifoTextsSpec : ChangeSpec := { name := "fifoTexts", fn := fun _ => fun
  | [d] => { results := [.lit (.bool true)], args := [d] }
  | _ => none }
def fifoTextsRow : OpenClaim := { program := "ytbdkiadhaencnaa", sum := "f7885e94251c33fe3dab23854ade9a8cdf16ea55a34736945718f6aeb2726772", func := "tripwire/tripwirelaw07.FifoTexts", spec := "fifoTexts", apart := false }
def FifoTextsSaid : Prop := fifoTextsRow.holds Try.pinned (OpenSpec.ofChange fifoTextsSpec)

/-- ITS FALSE NEIGHBOUR: 'it returns false'. Refute it at one input. -/
def fifoTextsWrong : ChangeSpec := { name := "fifoTexts", fn := fun _ => fun
  | [d] => { results := [.lit (.bool false)], args := [d] }
  | _ => none }
def FifoTextsWrongFalsely : Prop := fifoTextsRow.holds Try.pinned (OpenSpec.ofChange fifoTextsWrong)

/-- 'tripwirelaw07.FifoPlays': WHATEVER THE INPUT: true; the input reads as it did. -/
def fifoPlaysSpec : ChangeSpec := { name := "fifoPlays", fn := fun _ => fun
  | [d1, d2] => { results := [.lit (.bool true)], args := [d1, d2] }
  | _ => none }
def fifoPlaysRow : OpenClaim := { program := "ytbdkiadhaencnaa", sum := "f7885e94251c33fe3dab23854ade9a8cdf16ea55a34736945718f6aeb2726772", func := "tripwire/tripwirelaw07.FifoPlays", spec := "fifoPlays", unfollowed := true, recurses := true, apart := false }
def FifoPlaysSaid : Prop := fifoPlaysRow.holds Try.pinned (OpenSpec.ofChange fifoPlaysSpec)

/-- ITS FALSE NEIGHBOUR: 'it returns false'. Refute it at one input. -/
def fifoPlaysWrong : ChangeSpec := { name := "fifoPlays", fn := fun _ => fun
  | [d1, d2] => { results := [.lit (.bool false)], args := [d1, d2] }
  | _ => none }
def FifoPlaysWrongFalsely : Prop := fifoPlaysRow.holds Try.pinned (OpenSpec.ofChange fifoPlaysWrong)

/-- 'tripwirelaw07.FifoKeeps': WHATEVER THE INPUT: true; the input reads as it did. -/
def fifoKeepsSpec : ChangeSpec := { name := "fifoKeeps", fn := fun _ => fun
  | [d1, d2] => { results := [.lit (.bool true)], args := [d1, d2] }
  | _ => none }
def fifoKeepsRow : OpenClaim := { program := "ytbdkiadhaencnaa", sum := "f7885e94251c33fe3dab23854ade9a8cdf16ea55a34736945718f6aeb2726772", func := "tripwire/tripwirelaw07.FifoKeeps", spec := "fifoKeeps", unfollowed := true, recurses := true, apart := false }
def FifoKeepsSaid : Prop := fifoKeepsRow.holds Try.pinned (OpenSpec.ofChange fifoKeepsSpec)

/-- ITS FALSE NEIGHBOUR: 'it returns false'. Refute it at one input. -/
def fifoKeepsWrong : ChangeSpec := { name := "fifoKeeps", fn := fun _ => fun
  | [d1, d2] => { results := [.lit (.bool false)], args := [d1, d2] }
  | _ => none }
def FifoKeepsWrongFalsely : Prop := fifoKeepsRow.holds Try.pinned (OpenSpec.ofChange fifoKeepsWrong)

/- THE SECOND FORM. 'bulk': how many values and letters a reading holds, each counted each time it is reached (what is shared counts as often as it is met; a slice's spare places count too). A statement '..UptoSaid' is the law's where the arguments, and the package variables that the reading takes, are together of bulk at most 1048576: NARROWER than '..Said'. Prove '..Said' where nothing that the law and all that it calls make is longer than what came in: it says more and counts as full. Else prove '..UptoSaid'. A law counts once. -/
mutual
def uptoBulk {H : Type} : DataW H → Nat
  | .lit (.string bytes) => bytes.length + 1
  | .lit _ => 1
  | .nil => 1
  | .ptr d => uptoBulk d + 1
  | .slice elems spare => uptoBulkAll elems + uptoBulkAll spare + 1
  | .agg parts => uptoBulkAll parts + 1
  | .iface _ d => uptoBulk d + 1
  | .map entries => uptoBulkEntries entries + 1
  | .held _ => 1
def uptoBulkAll {H : Type} : List (DataW H) → Nat
  | [] => 0
  | d :: r => uptoBulk d + uptoBulkAll r
def uptoBulkEntries {H : Type} : List (Lit × DataW H) → Nat
  | [] => 0
  | x :: r => uptoBulkEntry x + uptoBulkEntries r
def uptoBulkEntry {H : Type} : Lit × DataW H → Nat
  | (.string bytes, d) => bytes.length + uptoBulk d + 1
  | (_, d) => uptoBulk d + 1
 end
def uptoSmall : (H : Type) → List (DataW H) → Bool := fun _ ds => decide (uptoBulkAll ds ≤ 1048576)
def OpenSpec.upto (s : _root_.Go.ChangeSpec) : _root_.Go.OpenSpec := { _root_.Go.OpenSpec.ofChange s with cond := some uptoSmall }

/-- 'tripwirelaw39.WaitWorst', WHERE WHAT IT READS IS OF BULK AT MOST 1048576: true; the input reads as it did. -/
def waitWorstUptoRow : OpenClaim := { program := "ytbdkiadhaencnaa", sum := "f7885e94251c33fe3dab23854ade9a8cdf16ea55a34736945718f6aeb2726772", func := "tripwire/tripwirelaw39.WaitWorst", spec := "waitWorst", unfollowed := true, recurses := true, apart := false, narrowed := true }
def WaitWorstUptoSaid : Prop := waitWorstUptoRow.holds Try.pinned (OpenSpec.upto waitWorstSpec)

/-- 'tripwirelaw39.WaitAll', WHERE WHAT IT READS IS OF BULK AT MOST 1048576: true; the input reads as it did. -/
def waitAllUptoRow : OpenClaim := { program := "ytbdkiadhaencnaa", sum := "f7885e94251c33fe3dab23854ade9a8cdf16ea55a34736945718f6aeb2726772", func := "tripwire/tripwirelaw39.WaitAll", spec := "waitAll", unfollowed := true, recurses := true, apart := false, narrowed := true }
def WaitAllUptoSaid : Prop := waitAllUptoRow.holds Try.pinned (OpenSpec.upto waitAllSpec)

/-- 'tripwirelaw02.WordPuts', WHERE WHAT IT READS IS OF BULK AT MOST 1048576: true; the input reads as it did. -/
def wordPutsUptoRow : OpenClaim := { program := "ytbdkiadhaencnaa", sum := "f7885e94251c33fe3dab23854ade9a8cdf16ea55a34736945718f6aeb2726772", func := "tripwire/tripwirelaw02.WordPuts", spec := "wordPuts", apart := false, narrowed := true }
def WordPutsUptoSaid : Prop := wordPutsUptoRow.holds Try.pinned (OpenSpec.upto wordPutsSpec)

/-- 'tripwirelaw02.WordGets', WHERE WHAT IT READS IS OF BULK AT MOST 1048576: true; the input reads as it did. -/
def wordGetsUptoRow : OpenClaim := { program := "ytbdkiadhaencnaa", sum := "f7885e94251c33fe3dab23854ade9a8cdf16ea55a34736945718f6aeb2726772", func := "tripwire/tripwirelaw02.WordGets", spec := "wordGets", apart := false, narrowed := true }
def WordGetsUptoSaid : Prop := wordGetsUptoRow.holds Try.pinned (OpenSpec.upto wordGetsSpec)

/-- 'tripwirelaw02.WordBack', WHERE WHAT IT READS IS OF BULK AT MOST 1048576: true; the input reads as it did. -/
def wordBackUptoRow : OpenClaim := { program := "ytbdkiadhaencnaa", sum := "f7885e94251c33fe3dab23854ade9a8cdf16ea55a34736945718f6aeb2726772", func := "tripwire/tripwirelaw02.WordBack", spec := "wordBack", apart := false, narrowed := true }
def WordBackUptoSaid : Prop := wordBackUptoRow.holds Try.pinned (OpenSpec.upto wordBackSpec)

/-- 'tripwirelaw02.WordFlips', WHERE WHAT IT READS IS OF BULK AT MOST 1048576: true; the input reads as it did. -/
def wordFlipsUptoRow : OpenClaim := { program := "ytbdkiadhaencnaa", sum := "f7885e94251c33fe3dab23854ade9a8cdf16ea55a34736945718f6aeb2726772", func := "tripwire/tripwirelaw02.WordFlips", spec := "wordFlips", apart := false, narrowed := true }
def WordFlipsUptoSaid : Prop := wordFlipsUptoRow.holds Try.pinned (OpenSpec.upto wordFlipsSpec)

/-- 'tripwirelaw02.WordReads', WHERE WHAT IT READS IS OF BULK AT MOST 1048576: true; the input reads as it did. -/
def wordReadsUptoRow : OpenClaim := { program := "ytbdkiadhaencnaa", sum := "f7885e94251c33fe3dab23854ade9a8cdf16ea55a34736945718f6aeb2726772", func := "tripwire/tripwirelaw02.WordReads", spec := "wordReads", apart := false, narrowed := true }
def WordReadsUptoSaid : Prop := wordReadsUptoRow.holds Try.pinned (OpenSpec.upto wordReadsSpec)

/-- 'tripwirelaw02.WordWrites', WHERE WHAT IT READS IS OF BULK AT MOST 1048576: true; the input reads as it did. -/
def wordWritesUptoRow : OpenClaim := { program := "ytbdkiadhaencnaa", sum := "f7885e94251c33fe3dab23854ade9a8cdf16ea55a34736945718f6aeb2726772", func := "tripwire/tripwirelaw02.WordWrites", spec := "wordWrites", apart := false, narrowed := true }
def WordWritesUptoSaid : Prop := wordWritesUptoRow.holds Try.pinned (OpenSpec.upto wordWritesSpec)

/-- 'tripwirelaw07.FifoOrder', WHERE WHAT IT READS IS OF BULK AT MOST 1048576: true; the input reads as it did. -/
def fifoOrderUptoRow : OpenClaim := { program := "ytbdkiadhaencnaa", sum := "f7885e94251c33fe3dab23854ade9a8cdf16ea55a34736945718f6aeb2726772", func := "tripwire/tripwirelaw07.FifoOrder", spec := "fifoOrder", apart := false, narrowed := true }
def FifoOrderUptoSaid : Prop := fifoOrderUptoRow.holds Try.pinned (OpenSpec.upto fifoOrderSpec)

/-- 'tripwirelaw07.FifoTexts', WHERE WHAT IT READS IS OF BULK AT MOST 1048576: true; the input reads as it did. -/
def fifoTextsUptoRow : OpenClaim := { program := "ytbdkiadhaencnaa", sum := "f7885e94251c33fe3dab23854ade9a8cdf16ea55a34736945718f6aeb2726772", func := "tripwire/tripwirelaw07.FifoTexts", spec := "fifoTexts", apart := false, narrowed := true }
def FifoTextsUptoSaid : Prop := fifoTextsUptoRow.holds Try.pinned (OpenSpec.upto fifoTextsSpec)

/-- 'tripwirelaw07.FifoPlays', WHERE WHAT IT READS IS OF BULK AT MOST 1048576: true; the input reads as it did. -/
def fifoPlaysUptoRow : OpenClaim := { program := "ytbdkiadhaencnaa", sum := "f7885e94251c33fe3dab23854ade9a8cdf16ea55a34736945718f6aeb2726772", func := "tripwire/tripwirelaw07.FifoPlays", spec := "fifoPlays", unfollowed := true, recurses := true, apart := false, narrowed := true }
def FifoPlaysUptoSaid : Prop := fifoPlaysUptoRow.holds Try.pinned (OpenSpec.upto fifoPlaysSpec)

/-- 'tripwirelaw07.FifoKeeps', WHERE WHAT IT READS IS OF BULK AT MOST 1048576: true; the input reads as it did. -/
def fifoKeepsUptoRow : OpenClaim := { program := "ytbdkiadhaencnaa", sum := "f7885e94251c33fe3dab23854ade9a8cdf16ea55a34736945718f6aeb2726772", func := "tripwire/tripwirelaw07.FifoKeeps", spec := "fifoKeeps", unfollowed := true, recurses := true, apart := false, narrowed := true }
def FifoKeepsUptoSaid : Prop := fifoKeepsUptoRow.holds Try.pinned (OpenSpec.upto fifoKeepsSpec)

end Rows
end Go.Proofs.Ytbdkiadhaencnaa
