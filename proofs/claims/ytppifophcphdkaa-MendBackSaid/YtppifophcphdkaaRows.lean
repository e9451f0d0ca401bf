/-
  No cell of these rows narrows 'for every input' (looked for: loops, veiled, ifaces, maps, wideKeys, modest, calm, conditions, laid).
  DERIVED. THE GIVEN ROWS OF THIS SEAT. 3 by the template 'for every input the law returns true; each argument reads behind the call as it read before'; 0 by the template 'total and deterministic' (their statements: YtppifophcphdkaaTotals.lean).
  GIVEN WITH THE SEED: the statements are not yours to turn. If you find one false, say at which input.
  Laid BY PROGRAM, IN A SANDBOX (cutbox-rows.mjs): the forced cells as the released guide's own fill.sh prints them over the translation 8cec018a30e38e21… (all of the seat's roots in one cut). By AI agents, Wed Nov 11 2026. No macro, syntax, notation, axiom, sorry.
-/
import Derived.Test.YtppifophcphdkaaChecked
import GoSem.Claim
import GoSem.ClaimJoined
import GoSem.ClaimMapViews
import Derived.JoinedTies
import Derived.KernelRfl
namespace Go.Proofs.Ytppifophcphdkaa
/- THE CELL 'sum', in the pinned program and in every row, IS THE sha256 OF THE DUMP (.gsa) THAT YtppifophcphdkaaProg.lean LOADS. Nothing in Lean hashes anything: it is a label: what it is worth is what the hold of that sum in a sandbox is worth. -/
noncomputable def Try.pinned : Pinned := { name := "ytppifophcphdkaa", sum := "8cec018a30e38e21602deddc19211e723df6b10a57f2185e8ca3616093ae0c62", checked := Try.checked }
namespace Rows
def none {H : Type} : Left H := { results := [], args := [] }

/-- 'wristbandlaw10.MendRight': WHATEVER THE INPUT: true; the input reads as it did. -/
def mendRightSpec : ChangeSpec := { name := "mendRight", fn := fun _ => fun
  | [d1, d2] => { results := [.lit (.bool true)], args := [d1, d2] }
  | _ => none }
def mendRightRow : OpenClaim := { program := "ytppifophcphdkaa", sum := "8cec018a30e38e21602deddc19211e723df6b10a57f2185e8ca3616093ae0c62", func := "wristband/wristbandlaw10.MendRight", spec := "mendRight", unfollowed := true, recurses := true, apart := false }
def MendRightSaid : Prop := mendRightRow.holds Try.pinned (OpenSpec.ofChange mendRightSpec)

/-- ITS FALSE NEIGHBOUR: 'it returns false'. Refute it at one input. -/
def mendRightWrong : ChangeSpec := { name := "mendRight", fn := fun _ => fun
  | [d1, d2] => { results := [.lit (.bool false)], args := [d1, d2] }
  | _ => none }
def MendRightWrongFalsely : Prop := mendRightRow.holds Try.pinned (OpenSpec.ofChange mendRightWrong)

/-- 'wristbandlaw10.MendBack': WHATEVER THE INPUT: true; the input reads as it did. -/
def mendBackSpec : ChangeSpec := { name := "mendBack", fn := fun _ => fun
  | [d1, d2, d3, d4] => { results := [.lit (.bool true)], args := [d1, d2, d3, d4] }
  | _ => none }
def mendBackRow : OpenClaim := { program := "ytppifophcphdkaa", sum := "8cec018a30e38e21602deddc19211e723df6b10a57f2185e8ca3616093ae0c62", func := "wristband/wristbandlaw10.MendBack", spec := "mendBack", unfollowed := true, recurses := true, apart := false }
def MendBackSaid : Prop := mendBackRow.holds Try.pinned (OpenSpec.ofChange mendBackSpec)

/-- ITS FALSE NEIGHBOUR: 'it returns false'. Refute it at one input. -/
def mendBackWrong : ChangeSpec := { name := "mendBack", fn := fun _ => fun
  | [d1, d2, d3, d4] => { results := [.lit (.bool false)], args := [d1, d2, d3, d4] }
  | _ => none }
def MendBackWrongFalsely : Prop := mendBackRow.holds Try.pinned (OpenSpec.ofChange mendBackWrong)

/-- 'wristbandlaw10.MendFine': WHATEVER THE INPUT: true; the input reads as it did. -/
def mendFineSpec : ChangeSpec := { name := "mendFine", fn := fun _ => fun
  | [d1, d2] => { results := [.lit (.bool true)], args := [d1, d2] }
  | _ => none }
def mendFineRow : OpenClaim := { program := "ytppifophcphdkaa", sum := "8cec018a30e38e21602deddc19211e723df6b10a57f2185e8ca3616093ae0c62", func := "wristband/wristbandlaw10.MendFine", spec := "mendFine", unfollowed := true, recurses := true, apart := false }
def MendFineSaid : Prop := mendFineRow.holds Try.pinned (OpenSpec.ofChange mendFineSpec)

/-- ITS FALSE NEIGHBOUR: 'it returns false'. Refute it at one input. -/
def mendFineWrong : ChangeSpec := { name := "mendFine", fn := fun _ => fun
  | [d1, d2] => { results := [.lit (.bool false)], args := [d1, d2] }
  | _ => none }
def MendFineWrongFalsely : Prop := mendFineRow.holds Try.pinned (OpenSpec.ofChange mendFineWrong)

/- THE SECOND FORM. 'bulk': how many values and letters a reading holds, each counted each time it is reached (what is shared counts as often as it is met; a slice's spare places count too). A statement '..UptoSaid' is the law's where the arguments, and the package variables that the reading takes, are together of bulk at most 1048576: NARROWER than '..Said'. Prove '..Said' where nothing that the law and all that it calls make is longer than what came in: it says more and counts as full. Else prove '..UptoSaid'. A law counts once. -/
mutual
def uptoBulk {H : Type} : DataW H → Nat
  | .lit (.string bytes) => bytes.length + 1
  | .lit _ => 1
  | .nil => 1
  | .ptr d => uptoBulk d + 1
  | .slice elems spare => uptoBulkAll elems + uptoBulkAll spare + 1
  | .agg parts => uptoBulkAll parts + 1
  | .iface _ d => uptoBulk d + 1
  | .map entries => uptoBulkEntries entries + 1
  | .held _ => 1
def uptoBulkAll {H : Type} : List (DataW H) → Nat
  | [] => 0
  | d :: r => uptoBulk d + uptoBulkAll r
def uptoBulkEntries {H : Type} : List (Lit × DataW H) → Nat
  | [] => 0
  | x :: r => uptoBulkEntry x + uptoBulkEntries r
def uptoBulkEntry {H : Type} : Lit × DataW H → Nat
  | (.string bytes, d) => bytes.length + uptoBulk d + 1
  | (_, d) => uptoBulk d + 1
 end
def uptoSmall : (H : Type) → List (DataW H) → Bool := fun _ ds => decide (uptoBulkAll ds ≤ 1048576)
def OpenSpec.upto (s : _root_.Go.ChangeSpec) : _root_.Go.OpenSpec := { _root_.Go.OpenSpec.ofChange s with cond := some uptoSmall }

/-- 'wristbandlaw10.MendRight', WHERE WHAT IT READS IS OF BULK AT MOST 1048576: true; the input reads as it did. -/
def mendRightUptoRow : OpenClaim := { program := "ytppifophcphdkaa", sum := "8cec018a30e38e21602deddc19211e723df6b10a57f2185e8ca3616093ae0c62", func := "wristband/wristbandlaw10.MendRight", spec := "mendRight", unfollowed := true, recurses := true, apart := false, narrowed := true }
def MendRightUptoSaid : Prop := mendRightUptoRow.holds Try.pinned (OpenSpec.upto mendRightSpec)

/-- 'wristbandlaw10.MendBack', WHERE WHAT IT READS IS OF BULK AT MOST 1048576: true; the input reads as it did. -/
def mendBackUptoRow : OpenClaim := { program := "ytppifophcphdkaa", sum := "8cec018a30e38e21602deddc19211e723df6b10a57f2185e8ca3616093ae0c62", func := "wristband/wristbandlaw10.MendBack", spec := "mendBack", unfollowed := true, recurses := true, apart := false, narrowed := true }
def MendBackUptoSaid : Prop := mendBackUptoRow.holds Try.pinned (OpenSpec.upto mendBackSpec)

/-- 'wristbandlaw10.MendFine', WHERE WHAT IT READS IS OF BULK AT MOST 1048576: true; the input reads as it did. -/
def mendFineUptoRow : OpenClaim := { program := "ytppifophcphdkaa", sum := "8cec018a30e38e21602deddc19211e723df6b10a57f2185e8ca3616093ae0c62", func := "wristband/wristbandlaw10.MendFine", spec := "mendFine", unfollowed := true, recurses := true, apart := false, narrowed := true }
def MendFineUptoSaid : Prop := mendFineUptoRow.holds Try.pinned (OpenSpec.upto mendFineSpec)

end Rows
end Go.Proofs.Ytppifophcphdkaa
