/-
  No cell of these rows narrows 'for every input' (looked for: loops, veiled, ifaces, maps, wideKeys, modest, calm, conditions, laid).
  DERIVED. THE GIVEN ROWS OF THIS SEAT. 6 by the template 'for every input the law returns true; each argument reads behind the call as it read before'; 0 by the template 'total and deterministic' (their statements: YtoglhcgcfdcmfaaTotals.lean).
  GIVEN WITH THE SEED: the statements are not yours to turn. If you find one false, say at which input.
  Laid BY PROGRAM, IN A SANDBOX (cutbox-rows.mjs): the forced cells as the released guide's own fill.sh prints them over the translation 33ef33e939441bde… (all of the seat's roots in one cut). By AI agents, Wed Nov 11 2026. No macro, syntax, notation, axiom, sorry.
-/
import Derived.Test.YtoglhcgcfdcmfaaChecked
import GoSem.Claim
import GoSem.ClaimJoined
import GoSem.ClaimMapViews
import Derived.JoinedTies
import Derived.KernelRfl
namespace Go.Proofs.Ytoglhcgcfdcmfaa
/- THE CELL 'sum', in the pinned program and in every row, IS THE sha256 OF THE DUMP (.gsa) THAT YtoglhcgcfdcmfaaProg.lean LOADS. Nothing in Lean hashes anything: it is a label: what it is worth is what the hold of that sum in a sandbox is worth. -/
noncomputable def Try.pinned : Pinned := { name := "ytoglhcgcfdcmfaa", sum := "33ef33e939441bde4255bce071e4c4973133023f5c94d00d3cefc82678b44c91", checked := Try.checked }
namespace Rows
def none {H : Type} : Left H := { results := [], args := [] }

/-- 'tripwirelaw08.ShelfTexts': WHATEVER THE INPUT: true; the input reads as it did. -/
def shelfTextsSpec : ChangeSpec := { name := "shelfTexts", fn := fun _ => fun
  | [d] => { results := [.lit (.bool true)], args := [d] }
  | _ => none }
def shelfTextsRow : OpenClaim := { program := "ytoglhcgcfdcmfaa", sum := "33ef33e939441bde4255bce071e4c4973133023f5c94d00d3cefc82678b44c91", func := "tripwire/tripwirelaw08.ShelfTexts", spec := "shelfTexts", inPlace := ["slices.overlaps[tripwire/shelf.row[string, int]]", "slices.overlaps[tripwire/shelf.row[int, string]]"], apart := false }
def ShelfTextsSaid : Prop := shelfTextsRow.holds Try.pinned (OpenSpec.ofChange shelfTextsSpec)

/-- ITS FALSE NEIGHBOUR: 'it returns false'. Refute it at one input. -/
def shelfTextsWrong : ChangeSpec := { name := "shelfTexts", fn := fun _ => fun
  | [d] => { results := [.lit (.bool false)], args := [d] }
  | _ => none }
def ShelfTextsWrongFalsely : Prop := shelfTextsRow.holds Try.pinned (OpenSpec.ofChange shelfTextsWrong)

/-- 'tripwirelaw08.ShelfPlaces': WHATEVER THE INPUT: true; the input reads as it did. -/
def shelfPlacesSpec : ChangeSpec := { name := "shelfPlaces", fn := fun _ => fun
  | [d1, d2] => { results := [.lit (.bool true)], args := [d1, d2] }
  | _ => none }
def shelfPlacesRow : OpenClaim := { program := "ytoglhcgcfdcmfaa", sum := "33ef33e939441bde4255bce071e4c4973133023f5c94d00d3cefc82678b44c91", func := "tripwire/tripwirelaw08.ShelfPlaces", spec := "shelfPlaces", inPlace := ["slices.overlaps[tripwire/shelf.row[int, int]]", "slices.overlaps[tripwire/shelf.row[int, string]]"], apart := false }
def ShelfPlacesSaid : Prop := shelfPlacesRow.holds Try.pinned (OpenSpec.ofChange shelfPlacesSpec)

/-- ITS FALSE NEIGHBOUR: 'it returns false'. Refute it at one input. -/
def shelfPlacesWrong : ChangeSpec := { name := "shelfPlaces", fn := fun _ => fun
  | [d1, d2] => { results := [.lit (.bool false)], args := [d1, d2] }
  | _ => none }
def ShelfPlacesWrongFalsely : Prop := shelfPlacesRow.holds Try.pinned (OpenSpec.ofChange shelfPlacesWrong)

/-- 'tripwirelaw08.ShelfPlays': WHATEVER THE INPUT: true; the input reads as it did. -/
def shelfPlaysSpec : ChangeSpec := { name := "shelfPlays", fn := fun _ => fun
  | [d1, d2] => { results := [.lit (.bool true)], args := [d1, d2] }
  | _ => none }
def shelfPlaysRow : OpenClaim := { program := "ytoglhcgcfdcmfaa", sum := "33ef33e939441bde4255bce071e4c4973133023f5c94d00d3cefc82678b44c91", func := "tripwire/tripwirelaw08.ShelfPlays", spec := "shelfPlays", inPlace := ["slices.overlaps[tripwire/shelf.row[int, int]]", "slices.overlaps[tripwire/shelf.row[int, string]]"], unfollowed := true, recurses := true, apart := false }
def ShelfPlaysSaid : Prop := shelfPlaysRow.holds Try.pinned (OpenSpec.ofChange shelfPlaysSpec)

/-- ITS FALSE NEIGHBOUR: 'it returns false'. Refute it at one input. -/
def shelfPlaysWrong : ChangeSpec := { name := "shelfPlays", fn := fun _ => fun
  | [d1, d2] => { results := [.lit (.bool false)], args := [d1, d2] }
  | _ => none }
def ShelfPlaysWrongFalsely : Prop := shelfPlaysRow.holds Try.pinned (OpenSpec.ofChange shelfPlaysWrong)

/-- 'tripwirelaw08.ShelfKeeps': WHATEVER THE INPUT: true; the input reads as it did. -/
def shelfKeepsSpec : ChangeSpec := { name := "shelfKeeps", fn := fun _ => fun
  | [d1, d2] => { results := [.lit (.bool true)], args := [d1, d2] }
  | _ => none }
def shelfKeepsRow : OpenClaim := { program := "ytoglhcgcfdcmfaa", sum := "33ef33e939441bde4255bce071e4c4973133023f5c94d00d3cefc82678b44c91", func := "tripwire/tripwirelaw08.ShelfKeeps", spec := "shelfKeeps", inPlace := ["slices.overlaps[tripwire/shelf.row[int, int]]", "slices.overlaps[tripwire/shelf.row[int, string]]"], unfollowed := true, recurses := true, apart := false }
def ShelfKeepsSaid : Prop := shelfKeepsRow.holds Try.pinned (OpenSpec.ofChange shelfKeepsSpec)

/-- ITS FALSE NEIGHBOUR: 'it returns false'. Refute it at one input. -/
def shelfKeepsWrong : ChangeSpec := { name := "shelfKeeps", fn := fun _ => fun
  | [d1, d2] => { results := [.lit (.bool false)], args := [d1, d2] }
  | _ => none }
def ShelfKeepsWrongFalsely : Prop := shelfKeepsRow.holds Try.pinned (OpenSpec.ofChange shelfKeepsWrong)

/-- 'tripwirelaw12.TimerOrder': WHATEVER THE INPUT: true; the input reads as it did. -/
def timerOrderSpec : ChangeSpec := { name := "timerOrder", fn := fun _ => fun
  | [d1, d2] => { results := [.lit (.bool true)], args := [d1, d2] }
  | _ => none }
def timerOrderRow : OpenClaim := { program := "ytoglhcgcfdcmfaa", sum := "33ef33e939441bde4255bce071e4c4973133023f5c94d00d3cefc82678b44c91", func := "tripwire/tripwirelaw12.TimerOrder", spec := "timerOrder", inPlace := ["slices.overlaps[tripwire/shelf.row[int, int]]", "slices.overlaps[tripwire/shelf.row[string, int]]"], unfollowed := true, recurses := true, apart := false }
def TimerOrderSaid : Prop := timerOrderRow.holds Try.pinned (OpenSpec.ofChange timerOrderSpec)

/-- ITS FALSE NEIGHBOUR: 'it returns false'. Refute it at one input. -/
def timerOrderWrong : ChangeSpec := { name := "timerOrder", fn := fun _ => fun
  | [d1, d2] => { results := [.lit (.bool false)], args := [d1, d2] }
  | _ => none }
def TimerOrderWrongFalsely : Prop := timerOrderRow.holds Try.pinned (OpenSpec.ofChange timerOrderWrong)

/-- 'tripwirelaw12.TimerPlays': WHATEVER THE INPUT: true; the input reads as it did. -/
def timerPlaysSpec : ChangeSpec := { name := "timerPlays", fn := fun _ => fun
  | [d] => { results := [.lit (.bool true)], args := [d] }
  | _ => none }
def timerPlaysRow : OpenClaim := { program := "ytoglhcgcfdcmfaa", sum := "33ef33e939441bde4255bce071e4c4973133023f5c94d00d3cefc82678b44c91", func := "tripwire/tripwirelaw12.TimerPlays", spec := "timerPlays", inPlace := ["slices.overlaps[tripwire/shelf.row[int, int]]", "slices.overlaps[tripwire/shelf.row[string, int]]"], unfollowed := true, recurses := true, apart := false }
def TimerPlaysSaid : Prop := timerPlaysRow.holds Try.pinned (OpenSpec.ofChange timerPlaysSpec)

/-- ITS FALSE NEIGHBOUR: 'it returns false'. Refute it at one input. -/
def timerPlaysWrong : ChangeSpec := { name := "timerPlays", fn := fun _ => fun
  | [d] => { results := [.lit (.bool false)], args := [d] }
  | _ => none }
def TimerPlaysWrongFalsely : Prop := timerPlaysRow.holds Try.pinned (OpenSpec.ofChange timerPlaysWrong)

/- THE SECOND FORM. 'bulk': how many values and letters a reading holds, each counted each time it is reached (what is shared counts as often as it is met; a slice's spare places count too). A statement '..UptoSaid' is the law's where the arguments, and the package variables that the reading takes, are together of bulk at most 1048576: NARROWER than '..Said'. Prove '..Said' where nothing that the law and all that it calls make is longer than what came in: it says more and counts as full. Else prove '..UptoSaid'. A law counts once. -/
mutual
def uptoBulk {H : Type} : DataW H → Nat
  | .lit (.string bytes) => bytes.length + 1
  | .lit _ => 1
  | .nil => 1
  | .ptr d => uptoBulk d + 1
  | .slice elems spare => uptoBulkAll elems + uptoBulkAll spare + 1
  | .agg parts => uptoBulkAll parts + 1
  | .iface _ d => uptoBulk d + 1
  | .map entries => uptoBulkEntries entries + 1
  | .held _ => 1
def uptoBulkAll {H : Type} : List (DataW H) → Nat
  | [] => 0
  | d :: r => uptoBulk d + uptoBulkAll r
def uptoBulkEntries {H : Type} : List (Lit × DataW H) → Nat
  | [] => 0
  | x :: r => uptoBulkEntry x + uptoBulkEntries r
def uptoBulkEntry {H : Type} : Lit × DataW H → Nat
  | (.string bytes, d) => bytes.length + uptoBulk d + 1
  | (_, d) => uptoBulk d + 1
 end
def uptoSmall : (H : Type) → List (DataW H) → Bool := fun _ ds => decide (uptoBulkAll ds ≤ 1048576)
def OpenSpec.upto (s : _root_.Go.ChangeSpec) : _root_.Go.OpenSpec := { _root_.Go.OpenSpec.ofChange s with cond := some uptoSmall }

/-- 'tripwirelaw08.ShelfTexts', WHERE WHAT IT READS IS OF BULK AT MOST 1048576: true; the input reads as it did. -/
def shelfTextsUptoRow : OpenClaim := { program := "ytoglhcgcfdcmfaa", sum := "33ef33e939441bde4255bce071e4c4973133023f5c94d00d3cefc82678b44c91", func := "tripwire/tripwirelaw08.ShelfTexts", spec := "shelfTexts", inPlace := ["slices.overlaps[tripwire/shelf.row[string, int]]", "slices.overlaps[tripwire/shelf.row[int, string]]"], apart := false, narrowed := true }
def ShelfTextsUptoSaid : Prop := shelfTextsUptoRow.holds Try.pinned (OpenSpec.upto shelfTextsSpec)

/-- 'tripwirelaw08.ShelfPlaces', WHERE WHAT IT READS IS OF BULK AT MOST 1048576: true; the input reads as it did. -/
def shelfPlacesUptoRow : OpenClaim := { program := "ytoglhcgcfdcmfaa", sum := "33ef33e939441bde4255bce071e4c4973133023f5c94d00d3cefc82678b44c91", func := "tripwire/tripwirelaw08.ShelfPlaces", spec := "shelfPlaces", inPlace := ["slices.overlaps[tripwire/shelf.row[int, int]]", "slices.overlaps[tripwire/shelf.row[int, string]]"], apart := false, narrowed := true }
def ShelfPlacesUptoSaid : Prop := shelfPlacesUptoRow.holds Try.pinned (OpenSpec.upto shelfPlacesSpec)

/-- 'tripwirelaw08.ShelfPlays', WHERE WHAT IT READS IS OF BULK AT MOST 1048576: true; the input reads as it did. -/
def shelfPlaysUptoRow : OpenClaim := { program := "ytoglhcgcfdcmfaa", sum := "33ef33e939441bde4255bce071e4c4973133023f5c94d00d3cefc82678b44c91", func := "tripwire/tripwirelaw08.ShelfPlays", spec := "shelfPlays", inPlace := ["slices.overlaps[tripwire/shelf.row[int, int]]", "slices.overlaps[tripwire/shelf.row[int, string]]"], unfollowed := true, recurses := true, apart := false, narrowed := true }
def ShelfPlaysUptoSaid : Prop := shelfPlaysUptoRow.holds Try.pinned (OpenSpec.upto shelfPlaysSpec)

/-- 'tripwirelaw08.ShelfKeeps', WHERE WHAT IT READS IS OF BULK AT MOST 1048576: true; the input reads as it did. -/
def shelfKeepsUptoRow : OpenClaim := { program := "ytoglhcgcfdcmfaa", sum := "33ef33e939441bde4255bce071e4c4973133023f5c94d00d3cefc82678b44c91", func := "tripwire/tripwirelaw08.ShelfKeeps", spec := "shelfKeeps", inPlace := ["slices.overlaps[tripwire/shelf.row[int, int]]", "slices.overlaps[tripwire/shelf.row[int, string]]"], unfollowed := true, recurses := true, apart := false, narrowed := true }
def ShelfKeepsUptoSaid : Prop := shelfKeepsUptoRow.holds Try.pinned (OpenSpec.upto shelfKeepsSpec)

/-- 'tripwirelaw12.TimerOrder', WHERE WHAT IT READS IS OF BULK AT MOST 1048576: true; the input reads as it did. -/
def timerOrderUptoRow : OpenClaim := { program := "ytoglhcgcfdcmfaa", sum := "33ef33e939441bde4255bce071e4c4973133023f5c94d00d3cefc82678b44c91", func := "tripwire/tripwirelaw12.TimerOrder", spec := "timerOrder", inPlace := ["slices.overlaps[tripwire/shelf.row[int, int]]", "slices.overlaps[tripwire/shelf.row[string, int]]"], unfollowed := true, recurses := true, apart := false, narrowed := true }
def TimerOrderUptoSaid : Prop := timerOrderUptoRow.holds Try.pinned (OpenSpec.upto timerOrderSpec)

/-- 'tripwirelaw12.TimerPlays', WHERE WHAT IT READS IS OF BULK AT MOST 1048576: true; the input reads as it did. -/
def timerPlaysUptoRow : OpenClaim := { program := "ytoglhcgcfdcmfaa", sum := "33ef33e939441bde4255bce071e4c4973133023f5c94d00d3cefc82678b44c91", func := "tripwire/tripwirelaw12.TimerPlays", spec := "timerPlays", inPlace := ["slices.overlaps[tripwire/shelf.row[int, int]]", "slices.overlaps[tripwire/shelf.row[string, int]]"], unfollowed := true, recurses := true, apart := false, narrowed := true }
def TimerPlaysUptoSaid : Prop := timerPlaysUptoRow.holds Try.pinned (OpenSpec.upto timerPlaysSpec)

end Rows
end Go.Proofs.Ytoglhcgcfdcmfaa
