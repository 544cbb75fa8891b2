/-
  No cell of these rows narrows 'for every input' (looked for: loops, veiled, ifaces, maps, wideKeys, modest, calm, conditions, laid).
  DERIVED. THE GIVEN ROWS OF THIS SEAT. 4 by the template 'for every input the law returns true; each argument reads behind the call as it read before'; 0 by the template 'total and deterministic' (their statements: YtdmecagdjbjgjaaTotals.lean).
  GIVEN WITH THE SEED: the statements are not yours to turn. If you find one false, say at which input.
  Laid BY PROGRAM, IN A SANDBOX (cutbox-rows.mjs): the forced cells as the released guide's own fill.sh prints them over the translation 98a98ef41638b82a… (all of the seat's roots in one cut). By AI agents, Wed Nov 11 2026. No macro, syntax, notation, axiom, sorry.
-/
import Derived.Test.YtdmecagdjbjgjaaChecked
import GoSem.Claim
import GoSem.ClaimJoined
import GoSem.ClaimMapViews
import Derived.JoinedTies
import Derived.KernelRfl
namespace Go.Proofs.Ytdmecagdjbjgjaa
/- THE CELL 'sum', in the pinned program and in every row, IS THE sha256 OF THE DUMP (.gsa) THAT YtdmecagdjbjgjaaProg.lean LOADS. Nothing in Lean hashes anything: it is a label: what it is worth is what the hold of that sum in a sandbox is worth. -/
noncomputable def Try.pinned : Pinned := { name := "ytdmecagdjbjgjaa", sum := "98a98ef41638b82a8e182f3fce1bdb8a21a297d083c35c835dcbdaaa772d7e84", checked := Try.checked }
namespace Rows
def none {H : Type} : Left H := { results := [], args := [] }

/-- 'skywaykeep4.RulesNear': WHATEVER THE INPUT: true; the input reads as it did. -/
def rulesNearSpec : ChangeSpec := { name := "rulesNear", fn := fun _ => fun
  | [d1, d2] => { results := [.lit (.bool true)], args := [d1, d2] }
  | _ => none }
def rulesNearRow : OpenClaim := { program := "ytdmecagdjbjgjaa", sum := "98a98ef41638b82a8e182f3fce1bdb8a21a297d083c35c835dcbdaaa772d7e84", func := "skyway/skywaykeep4.RulesNear", spec := "rulesNear", unfollowed := true, recurses := true, apart := false }
def RulesNearSaid : Prop := rulesNearRow.holds Try.pinned (OpenSpec.ofChange rulesNearSpec)

/-- ITS FALSE NEIGHBOUR: 'it returns false'. Refute it at one input. -/
def rulesNearWrong : ChangeSpec := { name := "rulesNear", fn := fun _ => fun
  | [d1, d2] => { results := [.lit (.bool false)], args := [d1, d2] }
  | _ => none }
def RulesNearWrongFalsely : Prop := rulesNearRow.holds Try.pinned (OpenSpec.ofChange rulesNearWrong)

/-- 'skywaykeep4.RulesFront': WHATEVER THE INPUT: true; the input reads as it did. -/
def rulesFrontSpec : ChangeSpec := { name := "rulesFront", fn := fun _ => fun
  | [d1, d2, d3] => { results := [.lit (.bool true)], args := [d1, d2, d3] }
  | _ => none }
def rulesFrontRow : OpenClaim := { program := "ytdmecagdjbjgjaa", sum := "98a98ef41638b82a8e182f3fce1bdb8a21a297d083c35c835dcbdaaa772d7e84", func := "skyway/skywaykeep4.RulesFront", spec := "rulesFront", unfollowed := true, recurses := true, apart := false }
def RulesFrontSaid : Prop := rulesFrontRow.holds Try.pinned (OpenSpec.ofChange rulesFrontSpec)

/-- ITS FALSE NEIGHBOUR: 'it returns false'. Refute it at one input. -/
def rulesFrontWrong : ChangeSpec := { name := "rulesFront", fn := fun _ => fun
  | [d1, d2, d3] => { results := [.lit (.bool false)], args := [d1, d2, d3] }
  | _ => none }
def RulesFrontWrongFalsely : Prop := rulesFrontRow.holds Try.pinned (OpenSpec.ofChange rulesFrontWrong)

/-- 'skywaykeep4.RulesOurs': WHATEVER THE INPUT: true; the input reads as it did. -/
def rulesOursSpec : ChangeSpec := { name := "rulesOurs", fn := fun _ => fun
  | [d1, d2] => { results := [.lit (.bool true)], args := [d1, d2] }
  | _ => none }
def rulesOursRow : OpenClaim := { program := "ytdmecagdjbjgjaa", sum := "98a98ef41638b82a8e182f3fce1bdb8a21a297d083c35c835dcbdaaa772d7e84", func := "skyway/skywaykeep4.RulesOurs", spec := "rulesOurs", unfollowed := true, recurses := true, apart := false }
def RulesOursSaid : Prop := rulesOursRow.holds Try.pinned (OpenSpec.ofChange rulesOursSpec)

/-- ITS FALSE NEIGHBOUR: 'it returns false'. Refute it at one input. -/
def rulesOursWrong : ChangeSpec := { name := "rulesOurs", fn := fun _ => fun
  | [d1, d2] => { results := [.lit (.bool false)], args := [d1, d2] }
  | _ => none }
def RulesOursWrongFalsely : Prop := rulesOursRow.holds Try.pinned (OpenSpec.ofChange rulesOursWrong)

/-- 'skywaykeep4.RulesSorted': WHATEVER THE INPUT: true; the input reads as it did. -/
def rulesSortedSpec : ChangeSpec := { name := "rulesSorted", fn := fun _ => fun
  | [d1, d2] => { results := [.lit (.bool true)], args := [d1, d2] }
  | _ => none }
def rulesSortedRow : OpenClaim := { program := "ytdmecagdjbjgjaa", sum := "98a98ef41638b82a8e182f3fce1bdb8a21a297d083c35c835dcbdaaa772d7e84", func := "skyway/skywaykeep4.RulesSorted", spec := "rulesSorted", unfollowed := true, recurses := true, apart := false }
def RulesSortedSaid : Prop := rulesSortedRow.holds Try.pinned (OpenSpec.ofChange rulesSortedSpec)

/-- ITS FALSE NEIGHBOUR: 'it returns false'. Refute it at one input. -/
def rulesSortedWrong : ChangeSpec := { name := "rulesSorted", fn := fun _ => fun
  | [d1, d2] => { results := [.lit (.bool false)], args := [d1, d2] }
  | _ => none }
def RulesSortedWrongFalsely : Prop := rulesSortedRow.holds Try.pinned (OpenSpec.ofChange rulesSortedWrong)

/- THE SECOND FORM. 'bulk': how many values and letters a reading holds, each counted each time it is reached (what is shared counts as often as it is met; a slice's spare places count too). A statement '..UptoSaid' is the law's where the arguments, and the package variables that the reading takes, are together of bulk at most 1048576: NARROWER than '..Said'. Prove '..Said' where nothing that the law and all that it calls make is longer than what came in: it says more and counts as full. Else prove '..UptoSaid'. A law counts once. -/
mutual
def uptoBulk {H : Type} : DataW H → Nat
  | .lit (.string bytes) => bytes.length + 1
  | .lit _ => 1
  | .nil => 1
  | .ptr d => uptoBulk d + 1
  | .slice elems spare => uptoBulkAll elems + uptoBulkAll spare + 1
  | .agg parts => uptoBulkAll parts + 1
  | .iface _ d => uptoBulk d + 1
  | .map entries => uptoBulkEntries entries + 1
  | .held _ => 1
def uptoBulkAll {H : Type} : List (DataW H) → Nat
  | [] => 0
  | d :: r => uptoBulk d + uptoBulkAll r
def uptoBulkEntries {H : Type} : List (Lit × DataW H) → Nat
  | [] => 0
  | x :: r => uptoBulkEntry x + uptoBulkEntries r
def uptoBulkEntry {H : Type} : Lit × DataW H → Nat
  | (.string bytes, d) => bytes.length + uptoBulk d + 1
  | (_, d) => uptoBulk d + 1
 end
def uptoSmall : (H : Type) → List (DataW H) → Bool := fun _ ds => decide (uptoBulkAll ds ≤ 1048576)
def OpenSpec.upto (s : _root_.Go.ChangeSpec) : _root_.Go.OpenSpec := { _root_.Go.OpenSpec.ofChange s with cond := some uptoSmall }

/-- 'skywaykeep4.RulesNear', WHERE WHAT IT READS IS OF BULK AT MOST 1048576: true; the input reads as it did. -/
def rulesNearUptoRow : OpenClaim := { program := "ytdmecagdjbjgjaa", sum := "98a98ef41638b82a8e182f3fce1bdb8a21a297d083c35c835dcbdaaa772d7e84", func := "skyway/skywaykeep4.RulesNear", spec := "rulesNear", unfollowed := true, recurses := true, apart := false, narrowed := true }
def RulesNearUptoSaid : Prop := rulesNearUptoRow.holds Try.pinned (OpenSpec.upto rulesNearSpec)

/-- 'skywaykeep4.RulesFront', WHERE WHAT IT READS IS OF BULK AT MOST 1048576: true; the input reads as it did. -/
def rulesFrontUptoRow : OpenClaim := { program := "ytdmecagdjbjgjaa", sum := "98a98ef41638b82a8e182f3fce1bdb8a21a297d083c35c835dcbdaaa772d7e84", func := "skyway/skywaykeep4.RulesFront", spec := "rulesFront", unfollowed := true, recurses := true, apart := false, narrowed := true }
def RulesFrontUptoSaid : Prop := rulesFrontUptoRow.holds Try.pinned (OpenSpec.upto rulesFrontSpec)

/-- 'skywaykeep4.RulesOurs', WHERE WHAT IT READS IS OF BULK AT MOST 1048576: true; the input reads as it did. -/
def rulesOursUptoRow : OpenClaim := { program := "ytdmecagdjbjgjaa", sum := "98a98ef41638b82a8e182f3fce1bdb8a21a297d083c35c835dcbdaaa772d7e84", func := "skyway/skywaykeep4.RulesOurs", spec := "rulesOurs", unfollowed := true, recurses := true, apart := false, narrowed := true }
def RulesOursUptoSaid : Prop := rulesOursUptoRow.holds Try.pinned (OpenSpec.upto rulesOursSpec)

/-- 'skywaykeep4.RulesSorted', WHERE WHAT IT READS IS OF BULK AT MOST 1048576: true; the input reads as it did. -/
def rulesSortedUptoRow : OpenClaim := { program := "ytdmecagdjbjgjaa", sum := "98a98ef41638b82a8e182f3fce1bdb8a21a297d083c35c835dcbdaaa772d7e84", func := "skyway/skywaykeep4.RulesSorted", spec := "rulesSorted", unfollowed := true, recurses := true, apart := false, narrowed := true }
def RulesSortedUptoSaid : Prop := rulesSortedUptoRow.holds Try.pinned (OpenSpec.upto rulesSortedSpec)

end Rows
end Go.Proofs.Ytdmecagdjbjgjaa
