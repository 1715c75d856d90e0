/-
  No cell of these rows narrows 'for every input' (looked for: loops, veiled, ifaces, maps, wideKeys, modest, calm, conditions, laid).
  DERIVED. THE GIVEN ROWS OF THIS SEAT. 3 by the template 'for every input the law returns true; each argument reads behind the call as it read before'; 0 by the template 'total and deterministic' (their statements: YtlhlbclidnfkfaaTotals.lean).
  GIVEN WITH THE SEED: the statements are not yours to turn. If you find one false, say at which input.
  Laid BY PROGRAM, IN A SANDBOX (cutbox-rows.mjs): the forced cells as the released guide's own fill.sh prints them over the translation b39f49420a79d784… (all of the seat's roots in one cut). By AI agents, Wed Nov 11 2026. No macro, syntax, notation, axiom, sorry.
-/
import Derived.Test.YtlhlbclidnfkfaaChecked
import GoSem.Claim
import GoSem.ClaimJoined
import GoSem.ClaimMapViews
import Derived.JoinedTies
import Derived.KernelRfl
namespace Go.Proofs.Ytlhlbclidnfkfaa
/- THE CELL 'sum', in the pinned program and in every row, IS THE sha256 OF THE DUMP (.gsa) THAT YtlhlbclidnfkfaaProg.lean LOADS. Nothing in Lean hashes anything: it is a label: what it is worth is what the hold of that sum in a sandbox is worth. -/
noncomputable def Try.pinned : Pinned := { name := "ytlhlbclidnfkfaa", sum := "b39f49420a79d7841ad4bc38ab1323dce4bf4266ec67b52383237107134527fe", checked := Try.checked }
namespace Rows
def none {H : Type} : Left H := { results := [], args := [] }

/-- 'tripwirelaw09.MailboxOrder': WHATEVER THE INPUT: true; the input reads as it did. -/
def mailboxOrderSpec : ChangeSpec := { name := "mailboxOrder", fn := fun _ => fun
  | [d] => { results := [.lit (.bool true)], args := [d] }
  | _ => none }
def mailboxOrderRow : OpenClaim := { program := "ytlhlbclidnfkfaa", sum := "b39f49420a79d7841ad4bc38ab1323dce4bf4266ec67b52383237107134527fe", func := "tripwire/tripwirelaw09.MailboxOrder", spec := "mailboxOrder", inPlace := ["slices.overlaps[tripwire/mailbox.letter]"], apart := false }
def MailboxOrderSaid : Prop := mailboxOrderRow.holds Try.pinned (OpenSpec.ofChange mailboxOrderSpec)

/-- ITS FALSE NEIGHBOUR: 'it returns false'. Refute it at one input. -/
def mailboxOrderWrong : ChangeSpec := { name := "mailboxOrder", fn := fun _ => fun
  | [d] => { results := [.lit (.bool false)], args := [d] }
  | _ => none }
def MailboxOrderWrongFalsely : Prop := mailboxOrderRow.holds Try.pinned (OpenSpec.ofChange mailboxOrderWrong)

/-- 'tripwirelaw09.MailboxParts': WHATEVER THE INPUT: true; the input reads as it did. -/
def mailboxPartsSpec : ChangeSpec := { name := "mailboxParts", fn := fun _ => fun
  | [d1, d2, d3] => { results := [.lit (.bool true)], args := [d1, d2, d3] }
  | _ => none }
def mailboxPartsRow : OpenClaim := { program := "ytlhlbclidnfkfaa", sum := "b39f49420a79d7841ad4bc38ab1323dce4bf4266ec67b52383237107134527fe", func := "tripwire/tripwirelaw09.MailboxParts", spec := "mailboxParts", inPlace := ["slices.overlaps[tripwire/mailbox.letter]"], apart := false }
def MailboxPartsSaid : Prop := mailboxPartsRow.holds Try.pinned (OpenSpec.ofChange mailboxPartsSpec)

/-- ITS FALSE NEIGHBOUR: 'it returns false'. Refute it at one input. -/
def mailboxPartsWrong : ChangeSpec := { name := "mailboxParts", fn := fun _ => fun
  | [d1, d2, d3] => { results := [.lit (.bool false)], args := [d1, d2, d3] }
  | _ => none }
def MailboxPartsWrongFalsely : Prop := mailboxPartsRow.holds Try.pinned (OpenSpec.ofChange mailboxPartsWrong)

/-- 'tripwirelaw09.MailboxPlays': WHATEVER THE INPUT: true; the input reads as it did. -/
def mailboxPlaysSpec : ChangeSpec := { name := "mailboxPlays", fn := fun _ => fun
  | [d] => { results := [.lit (.bool true)], args := [d] }
  | _ => none }
def mailboxPlaysRow : OpenClaim := { program := "ytlhlbclidnfkfaa", sum := "b39f49420a79d7841ad4bc38ab1323dce4bf4266ec67b52383237107134527fe", func := "tripwire/tripwirelaw09.MailboxPlays", spec := "mailboxPlays", inPlace := ["slices.overlaps[tripwire/mailbox.letter]"], unfollowed := true, recurses := true, apart := false }
def MailboxPlaysSaid : Prop := mailboxPlaysRow.holds Try.pinned (OpenSpec.ofChange mailboxPlaysSpec)

/-- ITS FALSE NEIGHBOUR: 'it returns false'. Refute it at one input. -/
def mailboxPlaysWrong : ChangeSpec := { name := "mailboxPlays", fn := fun _ => fun
  | [d] => { results := [.lit (.bool false)], args := [d] }
  | _ => none }
def MailboxPlaysWrongFalsely : Prop := mailboxPlaysRow.holds Try.pinned (OpenSpec.ofChange mailboxPlaysWrong)

/- THE SECOND FORM. 'bulk': how many values and letters a reading holds, each counted each time it is reached (what is shared counts as often as it is met; a slice's spare places count too). A statement '..UptoSaid' is the law's where the arguments, and the package variables that the reading takes, are together of bulk at most 1048576: NARROWER than '..Said'. Prove '..Said' where nothing that the law and all that it calls make is longer than what came in: it says more and counts as full. Else prove '..UptoSaid'. A law counts once. -/
mutual
def uptoBulk {H : Type} : DataW H → Nat
  | .lit (.string bytes) => bytes.length + 1
  | .lit _ => 1
  | .nil => 1
  | .ptr d => uptoBulk d + 1
  | .slice elems spare => uptoBulkAll elems + uptoBulkAll spare + 1
  | .agg parts => uptoBulkAll parts + 1
  | .iface _ d => uptoBulk d + 1
  | .map entries => uptoBulkEntries entries + 1
  | .held _ => 1
def uptoBulkAll {H : Type} : List (DataW H) → Nat
  | [] => 0
  | d :: r => uptoBulk d + uptoBulkAll r
def uptoBulkEntries {H : Type} : List (Lit × DataW H) → Nat
  | [] => 0
  | x :: r => uptoBulkEntry x + uptoBulkEntries r
def uptoBulkEntry {H : Type} : Lit × DataW H → Nat
  | (.string bytes, d) => bytes.length + uptoBulk d + 1
  | (_, d) => uptoBulk d + 1
 end
def uptoSmall : (H : Type) → List (DataW H) → Bool := fun _ ds => decide (uptoBulkAll ds ≤ 1048576)
def OpenSpec.upto (s : _root_.Go.ChangeSpec) : _root_.Go.OpenSpec := { _root_.Go.OpenSpec.ofChange s with cond := some uptoSmall }

/-- 'tripwirelaw09.MailboxOrder', WHERE WHAT IT READS IS OF BULK AT MOST 1048576: true; the input reads as it did. -/
def mailboxOrderUptoRow : OpenClaim := { program := "ytlhlbclidnfkfaa", sum := "b39f49420a79d7841ad4bc38ab1323dce4bf4266ec67b52383237107134527fe", func := "tripwire/tripwirelaw09.MailboxOrder", spec := "mailboxOrder", inPlace := ["slices.overlaps[tripwire/mailbox.letter]"], apart := false, narrowed := true }
def MailboxOrderUptoSaid : Prop := mailboxOrderUptoRow.holds Try.pinned (OpenSpec.upto mailboxOrderSpec)

/-- 'tripwirelaw09.MailboxParts', WHERE WHAT IT READS IS OF BULK AT MOST 1048576: true; the input reads as it did. -/
def mailboxPartsUptoRow : OpenClaim := { program := "ytlhlbclidnfkfaa", sum := "b39f49420a79d7841ad4bc38ab1323dce4bf4266ec67b52383237107134527fe", func := "tripwire/tripwirelaw09.MailboxParts", spec := "mailboxParts", inPlace := ["slices.overlaps[tripwire/mailbox.letter]"], apart := false, narrowed := true }
def MailboxPartsUptoSaid : Prop := mailboxPartsUptoRow.holds Try.pinned (OpenSpec.upto mailboxPartsSpec)

/-- 'tripwirelaw09.MailboxPlays', WHERE WHAT IT READS IS OF BULK AT MOST 1048576: true; the input reads as it did. -/
def mailboxPlaysUptoRow : OpenClaim := { program := "ytlhlbclidnfkfaa", sum := "b39f49420a79d7841ad4bc38ab1323dce4bf4266ec67b52383237107134527fe", func := "tripwire/tripwirelaw09.MailboxPlays", spec := "mailboxPlays", inPlace := ["slices.overlaps[tripwire/mailbox.letter]"], unfollowed := true, recurses := true, apart := false, narrowed := true }
def MailboxPlaysUptoSaid : Prop := mailboxPlaysUptoRow.holds Try.pinned (OpenSpec.upto mailboxPlaysSpec)

end Rows
end Go.Proofs.Ytlhlbclidnfkfaa
