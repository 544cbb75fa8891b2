/-
  No cell of these rows narrows 'for every input' (looked for: loops, veiled, ifaces, maps, wideKeys, modest, calm, conditions, laid).
  DERIVED. THE GIVEN ROWS OF THIS SEAT. 3 by the template 'for every input the law returns true; each argument reads behind the call as it read before'; 0 by the template 'total and deterministic' (their statements: YtblcgmihdgnhbaaTotals.lean).
  GIVEN WITH THE SEED: the statements are not yours to turn. If you find one false, say at which input.
  Laid BY PROGRAM, IN A SANDBOX (cutbox-rows.mjs): the forced cells as the released guide's own fill.sh prints them over the translation cd273a3f4c542b23… (all of the seat's roots in one cut). By AI agents, Wed Nov 11 2026. No macro, syntax, notation, axiom, sorry.
-/
import Derived.Test.YtblcgmihdgnhbaaChecked
import GoSem.Claim
import GoSem.ClaimJoined
import GoSem.ClaimMapViews
import Derived.JoinedTies
import Derived.KernelRfl
namespace Go.Proofs.Ytblcgmihdgnhbaa
/- THE CELL 'sum', in the pinned program and in every row, IS THE sha256 OF THE DUMP (.gsa) THAT YtblcgmihdgnhbaaProg.lean LOADS. Nothing in Lean hashes anything: it is a label: what it is worth is what the hold of that sum in a sandbox is worth. -/
noncomputable def Try.pinned : Pinned := { name := "ytblcgmihdgnhbaa", sum := "cd273a3f4c542b23955154cf73e2f3b8257423064c166813c2e76ea59aed8bb9", checked := Try.checked }
namespace Rows
def none {H : Type} : Left H := { results := [], args := [] }

/-- 'skywaykeep4.MailboxFirst': WHATEVER THE INPUT: true; the input reads as it did. -/
def mailboxFirstSpec : ChangeSpec := { name := "mailboxFirst", fn := fun _ => fun
  | [d1, d2] => { results := [.lit (.bool true)], args := [d1, d2] }
  | _ => none }
def mailboxFirstRow : OpenClaim := { program := "ytblcgmihdgnhbaa", sum := "cd273a3f4c542b23955154cf73e2f3b8257423064c166813c2e76ea59aed8bb9", func := "skyway/skywaykeep4.MailboxFirst", spec := "mailboxFirst", apart := false }
def MailboxFirstSaid : Prop := mailboxFirstRow.holds Try.pinned (OpenSpec.ofChange mailboxFirstSpec)

/-- ITS FALSE NEIGHBOUR: 'it returns false'. Refute it at one input. -/
def mailboxFirstWrong : ChangeSpec := { name := "mailboxFirst", fn := fun _ => fun
  | [d1, d2] => { results := [.lit (.bool false)], args := [d1, d2] }
  | _ => none }
def MailboxFirstWrongFalsely : Prop := mailboxFirstRow.holds Try.pinned (OpenSpec.ofChange mailboxFirstWrong)

/-- 'skywaykeep4.MailboxOrder': WHATEVER THE INPUT: true; the input reads as it did. -/
def mailboxOrderSpec : ChangeSpec := { name := "mailboxOrder", fn := fun _ => fun
  | [d1, d2] => { results := [.lit (.bool true)], args := [d1, d2] }
  | _ => none }
def mailboxOrderRow : OpenClaim := { program := "ytblcgmihdgnhbaa", sum := "cd273a3f4c542b23955154cf73e2f3b8257423064c166813c2e76ea59aed8bb9", func := "skyway/skywaykeep4.MailboxOrder", spec := "mailboxOrder", unfollowed := true, recurses := true, apart := false }
def MailboxOrderSaid : Prop := mailboxOrderRow.holds Try.pinned (OpenSpec.ofChange mailboxOrderSpec)

/-- ITS FALSE NEIGHBOUR: 'it returns false'. Refute it at one input. -/
def mailboxOrderWrong : ChangeSpec := { name := "mailboxOrder", fn := fun _ => fun
  | [d1, d2] => { results := [.lit (.bool false)], args := [d1, d2] }
  | _ => none }
def MailboxOrderWrongFalsely : Prop := mailboxOrderRow.holds Try.pinned (OpenSpec.ofChange mailboxOrderWrong)

/-- 'skywaykeep4.MailboxForced': WHATEVER THE INPUT: true; the input reads as it did. -/
def mailboxForcedSpec : ChangeSpec := { name := "mailboxForced", fn := fun _ => fun
  | [d1, d2, d3] => { results := [.lit (.bool true)], args := [d1, d2, d3] }
  | _ => none }
def mailboxForcedRow : OpenClaim := { program := "ytblcgmihdgnhbaa", sum := "cd273a3f4c542b23955154cf73e2f3b8257423064c166813c2e76ea59aed8bb9", func := "skyway/skywaykeep4.MailboxForced", spec := "mailboxForced", unfollowed := true, recurses := true, apart := false }
def MailboxForcedSaid : Prop := mailboxForcedRow.holds Try.pinned (OpenSpec.ofChange mailboxForcedSpec)

/-- ITS FALSE NEIGHBOUR: 'it returns false'. Refute it at one input. -/
def mailboxForcedWrong : ChangeSpec := { name := "mailboxForced", fn := fun _ => fun
  | [d1, d2, d3] => { results := [.lit (.bool false)], args := [d1, d2, d3] }
  | _ => none }
def MailboxForcedWrongFalsely : Prop := mailboxForcedRow.holds Try.pinned (OpenSpec.ofChange mailboxForcedWrong)

/- THE SECOND FORM. 'bulk': how many values and letters a reading holds, each counted each time it is reached (what is shared counts as often as it is met; a slice's spare places count too). A statement '..UptoSaid' is the law's where the arguments, and the package variables that the reading takes, are together of bulk at most 1048576: NARROWER than '..Said'. Prove '..Said' where nothing that the law and all that it calls make is longer than what came in: it says more and counts as full. Else prove '..UptoSaid'. A law counts once. -/
mutual
def uptoBulk {H : Type} : DataW H → Nat
  | .lit (.string bytes) => bytes.length + 1
  | .lit _ => 1
  | .nil => 1
  | .ptr d => uptoBulk d + 1
  | .slice elems spare => uptoBulkAll elems + uptoBulkAll spare + 1
  | .agg parts => uptoBulkAll parts + 1
  | .iface _ d => uptoBulk d + 1
  | .map entries => uptoBulkEntries entries + 1
  | .held _ => 1
def uptoBulkAll {H : Type} : List (DataW H) → Nat
  | [] => 0
  | d :: r => uptoBulk d + uptoBulkAll r
def uptoBulkEntries {H : Type} : List (Lit × DataW H) → Nat
  | [] => 0
  | x :: r => uptoBulkEntry x + uptoBulkEntries r
def uptoBulkEntry {H : Type} : Lit × DataW H → Nat
  | (.string bytes, d) => bytes.length + uptoBulk d + 1
  | (_, d) => uptoBulk d + 1
 end
def uptoSmall : (H : Type) → List (DataW H) → Bool := fun _ ds => decide (uptoBulkAll ds ≤ 1048576)
def OpenSpec.upto (s : _root_.Go.ChangeSpec) : _root_.Go.OpenSpec := { _root_.Go.OpenSpec.ofChange s with cond := some uptoSmall }

/-- 'skywaykeep4.MailboxFirst', WHERE WHAT IT READS IS OF BULK AT MOST 1048576: true; the input reads as it did. -/
def mailboxFirstUptoRow : OpenClaim := { program := "ytblcgmihdgnhbaa", sum := "cd273a3f4c542b23955154cf73e2f3b8257423064c166813c2e76ea59aed8bb9", func := "skyway/skywaykeep4.MailboxFirst", spec := "mailboxFirst", apart := false, narrowed := true }
def MailboxFirstUptoSaid : Prop := mailboxFirstUptoRow.holds Try.pinned (OpenSpec.upto mailboxFirstSpec)

/-- 'skywaykeep4.MailboxOrder', WHERE WHAT IT READS IS OF BULK AT MOST 1048576: true; the input reads as it did. -/
def mailboxOrderUptoRow : OpenClaim := { program := "ytblcgmihdgnhbaa", sum := "cd273a3f4c542b23955154cf73e2f3b8257423064c166813c2e76ea59aed8bb9", func := "skyway/skywaykeep4.MailboxOrder", spec := "mailboxOrder", unfollowed := true, recurses := true, apart := false, narrowed := true }
def MailboxOrderUptoSaid : Prop := mailboxOrderUptoRow.holds Try.pinned (OpenSpec.upto mailboxOrderSpec)

/-- 'skywaykeep4.MailboxForced', WHERE WHAT IT READS IS OF BULK AT MOST 1048576: true; the input reads as it did. -/
def mailboxForcedUptoRow : OpenClaim := { program := "ytblcgmihdgnhbaa", sum := "cd273a3f4c542b23955154cf73e2f3b8257423064c166813c2e76ea59aed8bb9", func := "skyway/skywaykeep4.MailboxForced", spec := "mailboxForced", unfollowed := true, recurses := true, apart := false, narrowed := true }
def MailboxForcedUptoSaid : Prop := mailboxForcedUptoRow.holds Try.pinned (OpenSpec.upto mailboxForcedSpec)

end Rows
end Go.Proofs.Ytblcgmihdgnhbaa
